/-
  What holds of a net, whatever happens (plain words). No condition.
  The law ResolveDoes by value, where lives is true. Conditions: numbers of their types. (Printed by gen_en.py.)
  lives of layer 37, by value. No condition.
-/
import Derived.Test.YtfepckbhnghpeaaGreatK19
namespace Go.Proofs.YtfepckbhnghpeaaGreat.V
open Go.RowKit

theorem want_any {Q : Pl → Prop} {c : Nat → Int} {now : Int} {T : List Pl} (k : Int × Int) (b : List Nat) (hnew : Q ⟨k.1, k.2, false, mac0, 1, now + clampW (c 30), [b]⟩) (hadd : ∀ x ∈ T, Q x → Q { x with ws := x.ws ++ [b] }) (h : ∀ x ∈ T, Q x) : ∀ y ∈ (wantT c now T k b).2, Q y := by
  unfold wantT
  cases hq : findT T k with
  | none =>
    dsimp only
    split
    · intro y hy
      rcases insT_mem.1 hy with rfl | hy
      · exact hnew
      · exact h y hy
    · exact h
  | some x =>
    have hx := (findT_mem hq).1
    dsimp only
    split
    · exact h
    · split
      · exact h
      · intro y hy
        rcases updT_mem hy with rfl | hy
        · exact hadd x hx (h x hx)
        · exact h y hy
theorem learn_any {Q : Pl → Prop} {c : Nat → Int} {now : Int} {T : List Pl} (k : Int × Int) (m : Nat → Int) (add : Bool) (hnew : Q ⟨k.1, k.2, true, m, 0, now + clampW (c 29), []⟩) (h : ∀ x ∈ T, Q x) : ∀ y ∈ (learnT c now T k m add).2, Q y := by
  unfold learnT
  cases hq : findT T k with
  | none =>
    dsimp only
    split
    · intro y hy
      rcases insT_mem.1 hy with rfl | hy
      · exact hnew
      · exact h y hy
    · exact h
  | some x =>
    dsimp only
    intro y hy
    rcases updT_mem hy with rfl | hy
    · exact hnew
    · exact h y hy
theorem tick_any {Q Q' : Pl → Prop} {c : Nat → Int} {now : Int} {T : List Pl} (hold : ∀ x, Q x → Q' x) (hnew : ∀ x, Q x → Q' { x with tries := x.tries + 1, due := now + clampW (c 30) }) (h : ∀ x ∈ T, Q x) : ∀ y ∈ tickT c now T, Q' y := fun y hy => by
  unfold tickT at hy
  obtain ⟨x, hx, e⟩ := List.mem_filterMap.1 hy
  unfold tickX at e
  split at e
  · injection e with e; rw [← e]; exact hold x (h x hx)
  · split at e
    · injection e with e
      rw [← e]
      exact hnew x (h x hx)
    · cases e

structure QOne (now : Int) (x : Pl) : Prop where
  due : 0 ≤ x.due ∧ x.due ≤ now + 4095
  ws : ∀ b ∈ x.ws, b.length ≤ 1000
  mac : MacN x.mac
  nic : x.nic = 0 ∨ x.nic = 1
structure QAll (now : Int) (n : Nat) (T : List Pl) : Prop where
  one : ∀ x ∈ T, QOne now x
  ok : TOk T
  len : T.length ≤ n
  wts : waitsT T ≤ n
theorem putE_len (f : Frm) : (putE f).length = f.dst.length + f.src.length + 2 + f.data.length := by
  unfold putE
  rw [List.length_append, List.length_append, List.length_append]
  rfl
theorem macZ_len (z : Nat → Nat) (nic : Int) : (macZ z nic).length = 6 := by unfold macZ; split <;> rfl
theorem putA_len (a : Arp) : (putA a).length = 16 + a.srcMac.length + a.dstMac.length := by
  unfold putA
  simp only [List.length_append]
  show 6 + 2 + (a.srcMac.length + 4) + (a.dstMac.length + 4) = _
  omega
theorem frameS_len (z : Nat → Nat) (nic : Int) (dst l : List Nat) : (frameS z nic dst l).2.length = dst.length + 8 + l.length := by
  show (putE _).length = _
  rw [putE_len]
  show dst.length + (macZ z nic).length + 2 + l.length = _
  rw [macZ_len]
  try omega
theorem askS_len (z : Nat → Nat) (k : Int × Int) : (askS z k).2.length = 42 := by
  show (putE _).length = _
  rw [putE_len]
  show 6 + (macZ z k.1).length + 2 + (putA _).length = _
  rw [putA_len]
  show 6 + (macZ z k.1).length + 2 + (16 + (macZ z k.1).length + 6) = _
  rw [macZ_len]
theorem answerS_len (z : Nat → Nat) (nic : Int) (a : Arp) : (answerS z nic a).2.length = 30 + 2 * a.srcMac.length := by
  show (putE _).length = _
  rw [putE_len]
  show a.srcMac.length + (macZ z nic).length + 2 + (putA _).length = _
  rw [putA_len]
  show a.srcMac.length + (macZ z nic).length + 2 + (16 + (macZ z nic).length + a.srcMac.length) = _
  rw [macZ_len]
  omega
theorem mac0_nat : MacN mac0 := fun _ => Int.le_refl _
theorem send_facts {c : Nat → Int} {z : Nat → Nat} {now : Int} {n : Nat} {T : List Pl} {p : Pkt} (hw : cfgW c) (h0 : 0 ≤ now) (hs : SortT T) (h : QAll now n T) (hp : p.ok) (hl : p.opts.length ≤ 50 ∧ p.data.length ≤ 300) :
    QAll now (n + 1) (sendT c z now T p).2 ∧ (sendT c z now T p).1.1.length ≤ 1 ∧ ∀ x ∈ (sendT c z now T p).1.1, x.2.length ≤ 1000 := by
  have hplen := putP_len hl
  have hsame : QAll now (n + 1) T := ⟨h.one, h.ok, Nat.le_succ_of_le h.len, Nat.le_succ_of_le h.wts⟩
  have hok := ofN_ok hw (a := (p.dst : Int)) (by have := hp.dst; omega)
  unfold sendT
  cases mayP p with
  | false => exact ⟨hsame, Nat.zero_le _, fun x hx => by cases hx⟩
  | true =>
    dsimp only
    cases decide (c 17 < ((putP p).length : Int)) with
    | true => exact ⟨hsame, Nat.zero_le _, fun x hx => by cases hx⟩
    | false =>
      dsimp only
      cases decide ((ofN p.dst c).2 = 0) with
      | false => exact ⟨hsame, Nat.zero_le _, fun x hx => by cases hx⟩
      | true =>
        dsimp only
        cases knownT T (ofN p.dst c).1 with
        | some m =>
          refine ⟨hsame, Nat.le_refl _, fun x hx => ?_⟩
          rw [List.mem_singleton.1 hx, frameS_len]
          show 6 + 8 + (putP p).length ≤ _
          omega
        | none =>
          have hcl := clampW_in (c 30)
          have hq : QAll now (n + 1) (wantT c now T (ofN p.dst c).1 (putP p)).2 := by
            refine ⟨want_any _ _ ⟨⟨?_, ?_⟩, fun b hb => ?_, mac0_nat, hok.1⟩ (fun x hx hq => ⟨hq.due, fun b hb => ?_, hq.mac, hq.nic⟩) h.one, want_ok h.ok _ _, ?_, ?_⟩
            · show 0 ≤ now + clampW (c 30); omega
            · show now + clampW (c 30) ≤ now + 4095; omega
            · rw [List.mem_singleton.1 hb]; omega
            · rcases List.mem_append.1 hb with hb | hb
              · exact hq.ws b hb
              · rw [List.mem_singleton.1 hb]; omega
            · have := want_len (c := c) (now := now) T (ofN p.dst c).1 (putP p); have := h.len; omega
            · have := want_waits_le (c := c) (now := now) hs (ofN p.dst c).1 (putP p); have := h.wts; omega
          dsimp only
          generalize wantT c now T (ofN p.dst c).1 (putP p) = W at hq ⊢
          obtain ⟨⟨ask, y⟩, T'⟩ := W
          unfold waitS
          dsimp only at hq ⊢
          cases decide (y = 0) with
          | false => exact ⟨hq, Nat.zero_le _, fun x hx => by cases hx⟩
          | true =>
            cases ask with
            | false => exact ⟨hq, Nat.zero_le _, fun x hx => by cases hx⟩
            | true =>
              refine ⟨hq, Nat.le_refl _, fun x hx => ?_⟩
              rw [List.mem_singleton.1 hx, askS_len]
              decide
theorem heard_facts {c : Nat → Int} {z : Nat → Nat} {now : Int} {n : Nat} {T : List Pl} {nic : Int} {a : Arp} (h0 : 0 ≤ now) (hs : SortT T) (h : QAll now n T) (ha : a.srcMac.length = 6) :
    QAll now (n + 1) (heardT c z now T nic a).2 ∧ (heardT c z now T nic a).1.length ≤ n + 1 ∧ ∀ x ∈ (heardT c z now T nic a).1, x.2.length ≤ 2000 := by
  have hsame : QAll now (n + 1) T := ⟨h.one, h.ok, Nat.le_succ_of_le h.len, Nat.le_succ_of_le h.wts⟩
  unfold heardT
  cases hn : decide (nic = 0) || decide (nic = 1) with
  | false => exact ⟨hsame, Nat.zero_le _, fun x hx => by cases hx⟩
  | true =>
    have hnic : nic = 0 ∨ nic = 1 := by
      rcases Bool.or_eq_true_iff.1 hn with hn | hn
      · exact .inl (of_decide_eq_true hn)
      · exact .inr (of_decide_eq_true hn)
    dsimp only
    have hL : QAll now (n + 1) (learnS c z now T nic a).2 ∧ (learnS c z now T nic a).1.length ≤ n ∧ ∀ b ∈ (learnS c z now T nic a).1, b.length ≤ 1000 := by
      unfold learnS
      split
      · exact ⟨hsame, Nat.zero_le _, fun b hb => by cases hb⟩
      · split
        · exact ⟨hsame, Nat.zero_le _, fun b hb => by cases hb⟩
        · have hcl := clampW_in (c 29)
          have hwl := learn_waits_le (c := c) (now := now) hs (nic, (a.srcIP : Int)) (macI a.srcMac) (decide ((a.dstIP : Int) = (addrZ z nic : Int)))
          have htl := learn_told2 (c := c) (now := now) (fun x hx => (h.one x hx).ws) (nic, (a.srcIP : Int)) (macI a.srcMac) (decide ((a.dstIP : Int) = (addrZ z nic : Int)))
          have hln := learn_len (c := c) (now := now) T (nic, (a.srcIP : Int)) (macI a.srcMac) (decide ((a.dstIP : Int) = (addrZ z nic : Int)))
          have := h.wts
          have := h.len
          refine ⟨⟨learn_any _ _ _ ⟨⟨?_, ?_⟩, fun b hb => (by cases hb), fun i => Int.natCast_nonneg _, hnic⟩ h.one, learn_ok h.ok _ _ _, by dsimp only; omega, by dsimp only; omega⟩, by dsimp only; omega, htl⟩
          · show 0 ≤ now + clampW (c 29); omega
          · show now + clampW (c 29) ≤ now + 4095; omega
    obtain ⟨g1, g2, g3⟩ := hL
    have hal : (ansL z nic a).length ≤ 1 ∧ ∀ x ∈ ansL z nic a, x.2.length ≤ 2000 := by
      unfold ansL
      split
      · exact ⟨Nat.zero_le _, fun x hx => by cases hx⟩
      · split
        · exact ⟨Nat.zero_le _, fun x hx => by cases hx⟩
        · refine ⟨Nat.le_refl _, fun x hx => ?_⟩
          rw [List.mem_singleton.1 hx, answerS_len, ha]
          decide
    refine ⟨g1, by rw [List.length_append, List.length_map]; omega, fun x hx => ?_⟩
    rcases List.mem_append.1 hx with hx | hx
    · obtain ⟨b, hb, rfl⟩ := List.mem_map.1 hx
      rw [frameS_len, ha]
      have := g3 b hb
      omega
    · exact hal.2 x hx
theorem tick_facts {c : Nat → Int} {z : Nat → Nat} {now : Int} {n : Nat} {T : List Pl} (h0 : 0 ≤ now) (h : QAll now n T) :
    QAll (now + 1) (n + 1) (tickT c (now + 1) T) ∧ (tickS c z now T).1.length ≤ n ∧ ∀ x ∈ (tickS c z now T).1, x.2.length ≤ 1000 := by
  have hcl := clampW_in (c 30)
  refine ⟨⟨tick_any (fun x hq => ⟨⟨hq.due.1, by have := hq.due.2; omega⟩, hq.ws, hq.mac, hq.nic⟩) (fun x hq => ⟨⟨?_, ?_⟩, hq.ws, hq.mac, hq.nic⟩) h.one, tick_ok h.ok, ?_, ?_⟩, ?_, fun x hx => ?_⟩
  · show 0 ≤ now + 1 + clampW (c 30); omega
  · show now + 1 + clampW (c 30) ≤ now + 1 + 4095; omega
  · have := tick_len c (now + 1) T; have := h.len; omega
  · have := waits_tick c (now + 1) T; have := h.wts; omega
  · unfold tickS
    rw [List.length_map]
    exact Nat.le_trans (asks_len _ _ _) h.len
  · unfold tickS at hx
    obtain ⟨k, _, rfl⟩ := List.mem_map.1 hx
    rw [askS_len]
    decide
end Go.Proofs.YtfepckbhnghpeaaGreat.V
namespace Go.Proofs.YtfepckbhnghpeaaGreat.V
open Go.RowKit
attribute [local irreducible] Fn FnN FnR OpVC DLe ArC ArL Ob ObS NewS

structure NDe where
  kind : Int
  nic : Int
  p : Pkt
  op : Nat
  x0 : Nat
  x1 : Nat
  x2 : Nat
  x3 : Nat
  x4 : Nat
  x5 : Nat
  sip : Nat
  y0 : Nat
  y1 : Nat
  y2 : Nat
  y3 : Nat
  y4 : Nat
  y5 : Nat
  dip : Nat
structure NDe.ok (x : NDe) : Prop where
  p : x.p.ok
  op : x.op < 65536
  sip : x.sip < 4294967296
  dip : x.dip < 4294967296
def ndC (x : NDe) : List D := [intD x.kind, intD x.nic, u8D x.p.tos, u16D x.p.id, boolD x.p.df, boolD x.p.mf, u16D x.p.off, u8D x.p.ttl, u8D x.p.proto, u32D x.p.src, u32D x.p.dst, octR x.p.opts, octR x.p.data, u16D x.op, u8D x.x0, u8D x.x1, u8D x.x2, u8D x.x3, u8D x.x4, u8D x.x5, u32D x.sip, u8D x.y0, u8D x.y1, u8D x.y2, u8D x.y3, u8D x.y4, u8D x.y5, u32D x.dip]
abbrev ndsR (L : List NDe) : D := .rows NDe 28 ndC L
theorem nd_lo (x : NDe) (r : List (Nat × Nat)) (z : List Nat) (n : Nat) : LOLe r z n (.cells 47 (ndC x)) (.cells 47 (ndC x)) := ⟨rfl, .inl (DLe.refl _), .inl (DLe.refl _), .inl (DLe.refl _), .inl (DLe.refl _), .inl (DLe.refl _), .inl (DLe.refl _), .inl (DLe.refl _), .inl (DLe.refl _), .inl (DLe.refl _), .inl (DLe.refl _), .inl (DLe.refl _), .inl (DLe.refl _), .inl (DLe.refl _), .inl (DLe.refl _), .inl (DLe.refl _), .inl (DLe.refl _), .inl (DLe.refl _), .inl (DLe.refl _), .inl (DLe.refl _), .inl (DLe.refl _), .inl (DLe.refl _), .inl (DLe.refl _), .inl (DLe.refl _), .inl (DLe.refl _), .inl (DLe.refl _), .inl (DLe.refl _), .inl (DLe.refl _), .inl (DLe.refl _), trivial⟩
theorem pk_lo (p : Pkt) (r : List (Nat × Nat)) (z : List Nat) (n : Nat) : LOLe r z n (.cells 43 (pktD p)) (.cells 43 (pktD p)) := ⟨rfl, .inl (DLe.refl _), .inl (DLe.refl _), .inl (DLe.refl _), .inl (DLe.refl _), .inl (DLe.refl _), .inl (DLe.refl _), .inl (DLe.refl _), .inl (DLe.refl _), .inl (DLe.refl _), .inl (DLe.refl _), .inl (DLe.refl _), trivial⟩
theorem cfgZ_of {c : Nat → Int} (h : cfgW c) : cfgZ c (fun i => (c i).toNat) ∧ (c 12).toNat < 4294967296 ∧ (c 13).toNat < 4294967296 := by
  refine ⟨fun i hi => ?_, ?_, ?_⟩
  · have h0 : 0 ≤ c i := by
      have hk : confKs[i]? = some .u8 ∨ confKs[i]? = some .u32 := by
        revert hi
        revert i
        decide
      rcases hk with hk | hk
      · exact (wf_u8 (h i _ hk)).1
      · exact (wf_u32 (h i _ hk)).1
    show c i = ((c i).toNat : Int)
    omega
  · have := wf_u32 (h 12 _ rfl); omega
  · have := wf_u32 (h 13 _ rfl); omega

structure NI (c : Nat → Int) (cg n : Nat) (now : Int) (d : CDat) (T : List Pl) : Prop where
  hcg : d.cg = cg
  hcc : d.c = c
  hnow : d.now = now
  nw : 0 ≤ now ∧ now ≤ 1073741824 + n
  st : CStand d T
  all : QAll now n T
theorem CallVC.nwaits2 {g : Bool} {s : St} {K : D → St → Prop} {i : Nat} {S : Nat → Prop} {c : Nat → Int} {cg n : Nat} {now : Int} {d : CDat} {T : List Pl} (hI : NI c cg n now d T) (hid : lget s.H i = some (V.arL S (cacheM d))) (h : K (intD (waitsT T)) s) : CallVC Tryz.prog g 16 [netP c cg] s K := by
  rw [← hI.hcc, ← hI.hcg]
  exact CallVC.nwaits hid hI.st h
theorem CallVC.nlen2 {g : Bool} {s : St} {K : D → St → Prop} {i : Nat} {S : Nat → Prop} {c : Nat → Int} {cg n : Nat} {now : Int} {d : CDat} {T : List Pl} (hI : NI c cg n now d T) (hid : lget s.H i = some (V.arL S (cacheM d))) (h : K (intD (T.length : Nat)) s) : CallVC Tryz.prog g 18 [netP c cg] s K := by
  rw [← hI.hcc, ← hI.hcg]
  exact CallVC.nlen hid hI.st h
set_option maxRecDepth 10000 in
set_option maxHeartbeats 16000000 in
theorem resolveDoes_fn (hlv : Fn Tryz.prog 5 [] fun d => d = boolD true) (c : Nat → Int) (hw : cfgW c) (now0 : Int) (l : List NDe) (hl : ∀ x ∈ l, x.ok) : Fn Tryz.prog 3 [.agg (cfgC c), intD now0, ndsR l] fun d => d = boolD true := by
  refine fnE_of_wpc (H0 := [(0, arE)]) (nx0 := 1) (pl := [(3, [0, 1, 3, 4, 2, 5, 6, 7]), (22, [1001, 0, 1, 2, 3, 4, 6, 7, 9, 7005, 7011]), (24, [0, 2, 3, 4, 5, 1, 6, 7, 8, 9, 11, 12, 13, 14, 15, 16, 17, 18, 10, 19, 20])]) (fun id o h => ?_) ttH ebH mxH Tryz.func3 rfl (by kernel_rfl) (Nat.le_of_ble_eq_true rfl) ?_
  · by_cases h0 : id = 0
    · subst h0; rw [lget_same] at h; injection h with h; exact ⟨by decide, h.symm⟩
    · rw [lget_ne _ _ h0] at h; cases h
  obtain ⟨hz, hz2⟩ := cfgZ_of hw
  generalize (fun i => (c i).toNat) = z at hz hz2
  have hz2 : z 12 < 4294967296 ∧ z 13 < 4294967296 := by
    have e1 := hz 12 (by decide)
    have e2 := hz 13 (by decide)
    omega
  have hright := rRight_fn c hw
  cases hrt : rightR c with
  | false =>
    rw [hrt] at hright
    conv => whnf
    (refine CallVC.pure (hright) rfl ?_; rintro _ rfl; conv => whnf)
    (refine CallVC.pure (hlv) rfl ?_; rintro _ rfl; conv => whnf)
  | true =>
  rw [hrt] at hright
  have hnew := snew_ar c now0
  have hrnew := rnew_obs c now0
  rw [clN_min] at hrnew
  have hn0 : 0 ≤ min (max now0 0) 1073741824 ∧ min (max now0 0) 1073741824 ≤ 1073741824 := by omega
  generalize min (max now0 0) 1073741824 = now1 at hnew hrnew hn0
  conv => whnf
  (refine CallVC.pure (hright) rfl ?_; rintro _ rfl; conv => whnf)
  refine CallVC.arN (i := 0) hnew rfl rfl (fun _ => rfl) ?_
  rintro _ _ S0 ⟨cg, mg, hok0, rfl, rfl⟩
  have hst0 := stand_new _ _ _ _ hok0
  conv => whnf
  refine CallVC.frzC (freshIn [] Tryz.func7 rfl (by kernel_rfl) (Nat.le_of_ble_eq_true rfl) rfl ?_)
  conv => whnf
  refine CallVC.news hrnew rfl ?_
  rintro _ S1 rfl
  conv => whnf
  refine ⟨rfl, rfl, _, _, _, rfl, rfl, ?_⟩
  conv => whnf
  refine ⟨Nat × Int × CDat × List Pl × (Nat → Prop) × (Nat → Prop), fun x => ⟨[(9, intD x.1), (8, netQ c), (7, netP c cg), (2, ndsR l)], nqH (arL x.2.2.2.2.1 (cacheM x.2.2.1)) x.2.2.2.2.2 c x.2.1 x.2.2.2.1 [], 2, ([], 0)⟩,
    fun x => x.1 ≤ 60 ∧ NI c cg x.1 x.2.1 x.2.2.1 x.2.2.2.1, fun x => 60 - x.1, ⟨(0, now1, cdat0 cg mg c now1, [], S0, S1), [(1, 3)], [], ?_, ⟨Nat.zero_le _, ⟨rfl, rfl, rfl, ⟨hn0.1, by show now1 ≤ 1073741824 + ((0 : Nat) : Int); omega⟩, hst0, ⟨fun x hx => absurd hx List.not_mem_nil, fun x hx => absurd hx List.not_mem_nil, Nat.le_refl _, Nat.le_refl _⟩⟩⟩⟩, ?_⟩
  · repeat' (first | exact trivial | exact .inl (DLe.refl _) | exact .inl (DLe.nil _ _) | (refine .inr ⟨rfl, _, ?_, rfl⟩; rfl) | exact rfl | exact .inl rfl | exact .inr ⟨rfl, rfl, rfl, rfl⟩ | exact Nat.zero_le _ | constructor)
  clear hst0 hok0 hnew hrnew hn0 mg S0 S1
  rintro ⟨k, now, d, T, S, S'⟩ ⟨hk, hI⟩
  dsimp only at hk hI ⊢
  have ek : IntKind.i64.wrap ((k : Int) + 1) = ((k + 1 : Nat) : Int) := by rw [IntWalk.i64_in _ (by omega)]; omega
  conv => whnf
  refine Fork.intro (fun q => ?_) (fun q => ?_)
  rotate_left
  · conv => whnf
    (refine CallVC.pure (hlv) rfl ?_; rintro _ rfl; conv => whnf)
  have q' : k < l.length := by have := of_decide_eq_true q; omega
  conv => whnf
  refine Fork.intro (fun q2 => ?_) (fun q2 => ?_)
  rotate_left
  · conv => whnf
    (refine CallVC.pure (hlv) rfl ?_; rintro _ rfl; conv => whnf)
  have q2' : k < 60 := by have := of_decide_eq_true q2; omega
  obtain ⟨x, hx⟩ : ∃ x, l[k]? = some x := ⟨_, List.getElem?_eq_getElem q'⟩
  have hxo := hl x (List.mem_of_getElem? hx)
  conv => whnf
  refine ⟨rfl, ⟨by omega, by omega⟩, fun y hy => ?_⟩
  obtain rfl : x = y := Option.some.inj (hx.symm.trans hy)
  conv => whnf
  have hnow := hI.nw
  have hlk := hI.all.len
  have hwk := hI.all.wts
  cases hkd : decide (x.kind = 0) with
  | true =>
    have hfl := fewP_len x.p
    have hfo := fewP_ok hxo.p
    have hfew := rFewP_fn x.p
    have hsend := send_ar z d T (fewP x.p) (by rw [hI.hcc]; exact hw) (by rw [hI.hcc]; exact hz) hI.st hI.all.ok (fun y hy => (hI.all.one y hy).mac) (by rw [hI.hnow]; omega) (by omega) hfo hfl
    rw [hI.hcg, hI.hcc, hI.hnow] at hsend
    obtain ⟨g1, g2, g3⟩ := send_facts (c := c) (z := z) (now := now) hw hnow.1 hI.st.sort hI.all hfo hfl
    have hsame := rsame_fn (sendT c z now T (fewP x.p)).1.1 (sendT c z now T (fewP x.p)).1.1 (by omega) (fun y hy => Nat.le_trans (g3 y hy) (by decide))
    rw [decide_eq_true rfl] at hsame
    conv => whnf
    (refine CallVC.pure (hfew) rfl ?_; rintro _ rfl; conv => whnf)
    refine CallVC.ar (i := 0) hsend rfl rfl ?_
    rintro _ _ S1 ⟨rfl, d', rfl, f1, f2, f3, f4⟩
    clear hsend
    conv => whnf
    refine CallVC.cov (args1 := [netQ c, .agg (pktD (fewP x.p))]) [] [] ⟨[(13, intD (sendT c z now T (fewP x.p)).1.2), (12, sentsR (sendT c z now T (fewP x.p)).1.1), (10, .loc 2 0), (9, intD k), (8, netQ c), (7, netP c cg), (2, ndsR l)], nqH (arL S1 (cacheM d')) S' c now T [(2, .cells 47 (ndC x)), (3, .cells 43 (pktD (fewP x.p)))], 4, ([], 0)⟩ ?_ ?_ (rsend_vc _ _ _ _ _ S' c z now T (fewP x.p) hw hz hz2 hI.st.sort (fun y hy => (hI.all.one y hy).mac) (by omega) (by omega) hfo hfl rfl rfl (fun _ _ _ => rfl) (nd_lo x) (pk_lo _) fun S2 => ?_)
    · repeat' (first | exact trivial | exact .inl (DLe.refl _) | exact .inl (DLe.nil _ _) | (refine .inr ⟨rfl, _, ?_, rfl⟩; rfl) | exact rfl | exact .inl rfl | exact .inr ⟨rfl, rfl, rfl, rfl⟩ | exact Nat.zero_le _ | constructor)
    · repeat' (first | exact trivial | exact .inl (DLe.refl _) | exact .inl (DLe.nil _ _) | (refine .inr ⟨rfl, _, ?_, rfl⟩; rfl) | exact rfl | exact .inl rfl | exact .inr ⟨rfl, rfl, rfl, rfl⟩ | exact Nat.zero_le _ | constructor)
    have hI3 : NI c cg (k + 1) now d' (sendT c z now T (fewP x.p)).2 := ⟨f1, f2, f3, ⟨hnow.1, by omega⟩, f4, g1⟩
    generalize sendT c z now T (fewP x.p) = W at hsame hI3 ⊢
    obtain ⟨⟨FR, why⟩, T'⟩ := W
    dsimp only at hsame hI3 ⊢
    generalize now = now2 at hI3 ⊢
    conv => whnf
    (refine CallVC.pure (hsame) rfl ?_; rintro _ rfl; conv => whnf)
    refine Fork.intro (fun q4 => ?_) (fun q4 => ?_)
    · exact absurd q4 (by simp)
    conv => whnf
    have hrw := qc_look (c := c) (now := now2) ⟨_, Tryz.func17, rfl⟩ (rwaits_fn c now2 T' (by have := hI3.all.len; omega) (by have := hI3.all.wts; omega))
    refine CallVC.nwaits2 (i := 0) hI3 rfl ?_
    conv => whnf
    refine CallVC.look hrw rfl ?_
    rintro _ rfl
    clear hrw
    conv => whnf
    refine Fork.intro (fun q6 => ?_) (fun q6 => ?_)
    · exact absurd q6 (by simp)
    conv => whnf
    refine pv_loadSp ttH rfl rfl rfl ?_
    rintro _ nx ⟨rfl, _⟩
    refine ⟨_, _, _, rfl, rfl, .inr ⟨1, Pl, _, 12, oneC c, T', rfl, rfl, fun row hrow => ?_⟩⟩
    conv => whnf
    refine pv_lenS (row := row) ttH hrow rfl rfl ?_
    conv => whnf
    refine CallVC.nlen2 (i := 0) hI3 rfl ?_
    conv => whnf
    refine Fork.intro (fun q7 => ?_) (fun q7 => ?_)
    · exact absurd q7 (by simp)
    conv => whnf
    rw [ek]
    refine ⟨(k + 1, now2, d', T', S1, S2), [], [], ?_, ⟨q2', hI3⟩, by show 60 - (k + 1) < 60 - k; omega⟩
    repeat' (first | exact trivial | exact .inl (DLe.refl _) | exact .inl (DLe.nil _ _) | (refine .inr ⟨rfl, _, ?_, rfl⟩; rfl) | exact rfl | exact .inl rfl | exact .inr ⟨rfl, rfl, rfl, rfl⟩ | exact Nat.zero_le _ | constructor)
  | false =>
    conv => whnf
    cases h1 : decide (x.kind = 1) with
    | true =>
      conv => whnf
      have hheard := heard_ar z d T x.nic x.op x.sip x.dip x.x0 x.x1 x.x2 x.x3 x.x4 x.x5 x.y0 x.y1 x.y2 x.y3 x.y4 x.y5 (by rw [hI.hcc]; exact hw) (by rw [hI.hcc]; exact hz) hI.st (by rw [hI.hnow]; omega) (by omega) (fun y hy => (hI.all.one y hy).ws) hxo.op hxo.sip hxo.dip
      rw [hI.hcg, hI.hcc, hI.hnow] at hheard
      obtain ⟨g1, g2, g3⟩ := heard_facts (c := c) (z := z) (now := now) (nic := x.nic) (a := ⟨x.op, [x.x0, x.x1, x.x2, x.x3, x.x4, x.x5], x.sip, [x.y0, x.y1, x.y2, x.y3, x.y4, x.y5], x.dip⟩) hnow.1 hI.st.sort hI.all rfl
      generalize hg : heardT c z now T x.nic ⟨x.op, [x.x0, x.x1, x.x2, x.x3, x.x4, x.x5], x.sip, [x.y0, x.y1, x.y2, x.y3, x.y4, x.y5], x.dip⟩ = W at hheard g1 g2 g3
      obtain ⟨FR, T'⟩ := W
      dsimp only at hheard g1 g2 g3
      have hsame : FnN Tryz.prog 11 [sentsR FR, sentsR FR] fun d => d = boolD true := (FnN.of_flat (rsame_fn FR FR (by omega) (fun y hy => Nat.le_trans (g3 y hy) (by decide))) (fun d e => by rw [e]; rfl)).mono fun d e => by rw [e, decide_eq_true rfl]
      refine ⟨{ b : CDat × (Nat → Prop) × (Nat → Prop) // b.1.cg = cg ∧ b.1.c = c ∧ b.1.now = now ∧ CStand b.1 T' }, fun b => ⟨[(108, boolD false), (10, .loc 2 0), (9, intD k), (8, netQ c), (7, netP c cg), (2, ndsR l)], nqH (arL b.1.2.1 (cacheM b.1.1)) b.1.2.2 c now T' [(2, .cells 47 (ndC x))], 4, ([], 0)⟩, ?_, fun b => ?_⟩
      · refine ⟨?_, ?_, ?_, trivial⟩
        · conv => whnf
          refine CallVC.ar (i := 0) hheard rfl rfl ?_
          rintro _ _ S1 ⟨rfl, d', rfl, f1, f2, f3, f4⟩
          conv => whnf
          refine ⟨?_, ?_, trivial⟩
          · conv => whnf
            refine ⟨?_, trivial⟩
            · conv => whnf
              refine ⟨?_, trivial⟩
              · conv => whnf
                refine CallVC.cov (args1 := [netQ c, intD x.nic, .agg (arpD ⟨x.op, [x.x0, x.x1, x.x2, x.x3, x.x4, x.x5], x.sip, [x.y0, x.y1, x.y2, x.y3, x.y4, x.y5], x.dip⟩)]) [] [] ⟨[(100, sentsR FR), (10, .loc 2 0), (9, intD k), (8, netQ c), (7, netP c cg), (2, ndsR l)], nqH (arL S1 (cacheM d')) S' c now T [(2, .cells 47 (ndC x))], 3, ([], 0)⟩ ?_ ?_ (rheard_vc _ _ _ _ S' c z now T x.nic x.op x.sip x.dip x.x0 x.x1 x.x2 x.x3 x.x4 x.x5 x.y0 x.y1 x.y2 x.y3 x.y4 x.y5 hw hz hz2 hI.st.sort (by omega) (by omega) (fun y hy => (hI.all.one y hy).ws) hxo.op hxo.sip hxo.dip rfl rfl (fun _ _ _ => rfl) (nd_lo x) fun S2 L2 T2 hL => ?_)
                · repeat' (first | exact trivial | exact .inl (DLe.refl _) | exact .inl (DLe.nil _ _) | (refine .inr ⟨rfl, _, ?_, rfl⟩; rfl) | exact rfl | exact .inl rfl | exact .inr ⟨rfl, rfl, rfl, rfl⟩ | exact Nat.zero_le _ | constructor)
                · repeat' (first | exact trivial | exact .inl (DLe.refl _) | exact .inl (DLe.nil _ _) | (refine .inr ⟨rfl, _, ?_, rfl⟩; rfl) | exact rfl | exact .inl rfl | exact .inr ⟨rfl, rfl, rfl, rfl⟩ | exact Nat.zero_le _ | constructor)
                obtain ⟨rfl, rfl⟩ : FR = L2 ∧ T' = T2 := by rw [hg] at hL; exact ⟨congrArg Prod.fst hL, congrArg Prod.snd hL⟩
                conv => whnf
                refine ⟨?_, trivial⟩
                · conv => whnf
                  refine CallVC.look hsame rfl ?_
                  rintro _ rfl
                  conv => whnf
                  refine ⟨?_, trivial⟩
                  · conv => whnf
                    refine ⟨⟨(d', S1, S2), f1, f2, f3, f4⟩, [], [], ?_⟩
                    repeat' (first | exact trivial | exact .inl (DLe.refl _) | exact .inl (DLe.nil _ _) | (refine .inr ⟨rfl, _, ?_, rfl⟩; rfl) | exact rfl | exact .inl rfl | exact .inr ⟨rfl, rfl, rfl, rfl⟩ | exact Nat.zero_le _ | constructor)
          · conv => whnf
            refine ⟨?_, trivial⟩
            · conv => whnf
              refine ⟨?_, trivial⟩
              · conv => whnf
                refine CallVC.cov (args1 := [netQ c, intD x.nic, .agg (arpD ⟨x.op, [x.x0, x.x1, x.x2, x.x3, x.x4, x.x5], x.sip, [x.y0, x.y1, x.y2, x.y3, x.y4, x.y5], x.dip⟩)]) [] [] ⟨[(100, sentsR FR), (10, .loc 2 0), (9, intD k), (8, netQ c), (7, netP c cg), (2, ndsR l)], nqH (arL S1 (cacheM d')) S' c now T [(2, .cells 47 (ndC x))], 3, ([], 0)⟩ ?_ ?_ (rheard_vc _ _ _ _ S' c z now T x.nic x.op x.sip x.dip x.x0 x.x1 x.x2 x.x3 x.x4 x.x5 x.y0 x.y1 x.y2 x.y3 x.y4 x.y5 hw hz hz2 hI.st.sort (by omega) (by omega) (fun y hy => (hI.all.one y hy).ws) hxo.op hxo.sip hxo.dip rfl rfl (fun _ _ _ => rfl) (nd_lo x) fun S2 L2 T2 hL => ?_)
                · repeat' (first | exact trivial | exact .inl (DLe.refl _) | exact .inl (DLe.nil _ _) | (refine .inr ⟨rfl, _, ?_, rfl⟩; rfl) | exact rfl | exact .inl rfl | exact .inr ⟨rfl, rfl, rfl, rfl⟩ | exact Nat.zero_le _ | constructor)
                · repeat' (first | exact trivial | exact .inl (DLe.refl _) | exact .inl (DLe.nil _ _) | (refine .inr ⟨rfl, _, ?_, rfl⟩; rfl) | exact rfl | exact .inl rfl | exact .inr ⟨rfl, rfl, rfl, rfl⟩ | exact Nat.zero_le _ | constructor)
                obtain ⟨rfl, rfl⟩ : FR = L2 ∧ T' = T2 := by rw [hg] at hL; exact ⟨congrArg Prod.fst hL, congrArg Prod.snd hL⟩
                conv => whnf
                refine ⟨?_, trivial⟩
                · conv => whnf
                  refine CallVC.look hsame rfl ?_
                  rintro _ rfl
                  conv => whnf
                  refine ⟨?_, trivial⟩
                  · conv => whnf
                    refine ⟨⟨(d', S1, S2), f1, f2, f3, f4⟩, [], [], ?_⟩
                    repeat' (first | exact trivial | exact .inl (DLe.refl _) | exact .inl (DLe.nil _ _) | (refine .inr ⟨rfl, _, ?_, rfl⟩; rfl) | exact rfl | exact .inl rfl | exact .inr ⟨rfl, rfl, rfl, rfl⟩ | exact Nat.zero_le _ | constructor)
        · conv => whnf
          refine ⟨?_, ?_, trivial⟩
          · conv => whnf
            refine CallVC.ar (i := 0) hheard rfl rfl ?_
            rintro _ _ S1 ⟨rfl, d', rfl, f1, f2, f3, f4⟩
            conv => whnf
            refine ⟨?_, trivial⟩
            · conv => whnf
              refine ⟨?_, trivial⟩
              · conv => whnf
                refine CallVC.cov (args1 := [netQ c, intD x.nic, .agg (arpD ⟨x.op, [x.x0, x.x1, x.x2, x.x3, x.x4, x.x5], x.sip, [x.y0, x.y1, x.y2, x.y3, x.y4, x.y5], x.dip⟩)]) [] [] ⟨[(100, sentsR FR), (10, .loc 2 0), (9, intD k), (8, netQ c), (7, netP c cg), (2, ndsR l)], nqH (arL S1 (cacheM d')) S' c now T [(2, .cells 47 (ndC x))], 3, ([], 0)⟩ ?_ ?_ (rheard_vc _ _ _ _ S' c z now T x.nic x.op x.sip x.dip x.x0 x.x1 x.x2 x.x3 x.x4 x.x5 x.y0 x.y1 x.y2 x.y3 x.y4 x.y5 hw hz hz2 hI.st.sort (by omega) (by omega) (fun y hy => (hI.all.one y hy).ws) hxo.op hxo.sip hxo.dip rfl rfl (fun _ _ _ => rfl) (nd_lo x) fun S2 L2 T2 hL => ?_)
                · repeat' (first | exact trivial | exact .inl (DLe.refl _) | exact .inl (DLe.nil _ _) | (refine .inr ⟨rfl, _, ?_, rfl⟩; rfl) | exact rfl | exact .inl rfl | exact .inr ⟨rfl, rfl, rfl, rfl⟩ | exact Nat.zero_le _ | constructor)
                · repeat' (first | exact trivial | exact .inl (DLe.refl _) | exact .inl (DLe.nil _ _) | (refine .inr ⟨rfl, _, ?_, rfl⟩; rfl) | exact rfl | exact .inl rfl | exact .inr ⟨rfl, rfl, rfl, rfl⟩ | exact Nat.zero_le _ | constructor)
                obtain ⟨rfl, rfl⟩ : FR = L2 ∧ T' = T2 := by rw [hg] at hL; exact ⟨congrArg Prod.fst hL, congrArg Prod.snd hL⟩
                conv => whnf
                refine ⟨?_, trivial⟩
                · conv => whnf
                  refine CallVC.look hsame rfl ?_
                  rintro _ rfl
                  conv => whnf
                  refine ⟨?_, trivial⟩
                  · conv => whnf
                    refine ⟨⟨(d', S1, S2), f1, f2, f3, f4⟩, [], [], ?_⟩
                    repeat' (first | exact trivial | exact .inl (DLe.refl _) | exact .inl (DLe.nil _ _) | (refine .inr ⟨rfl, _, ?_, rfl⟩; rfl) | exact rfl | exact .inl rfl | exact .inr ⟨rfl, rfl, rfl, rfl⟩ | exact Nat.zero_le _ | constructor)
          · conv => whnf
            refine ⟨?_, trivial⟩
            · conv => whnf
              refine CallVC.ar (i := 0) hheard rfl rfl ?_
              rintro _ _ S1 ⟨rfl, d', rfl, f1, f2, f3, f4⟩
              conv => whnf
              refine ⟨?_, trivial⟩
              · conv => whnf
                refine CallVC.cov (args1 := [netQ c, intD x.nic, .agg (arpD ⟨x.op, [x.x0, x.x1, x.x2, x.x3, x.x4, x.x5], x.sip, [x.y0, x.y1, x.y2, x.y3, x.y4, x.y5], x.dip⟩)]) [] [] ⟨[(100, sentsR FR), (10, .loc 2 0), (9, intD k), (8, netQ c), (7, netP c cg), (2, ndsR l)], nqH (arL S1 (cacheM d')) S' c now T [(2, .cells 47 (ndC x))], 3, ([], 0)⟩ ?_ ?_ (rheard_vc _ _ _ _ S' c z now T x.nic x.op x.sip x.dip x.x0 x.x1 x.x2 x.x3 x.x4 x.x5 x.y0 x.y1 x.y2 x.y3 x.y4 x.y5 hw hz hz2 hI.st.sort (by omega) (by omega) (fun y hy => (hI.all.one y hy).ws) hxo.op hxo.sip hxo.dip rfl rfl (fun _ _ _ => rfl) (nd_lo x) fun S2 L2 T2 hL => ?_)
                · repeat' (first | exact trivial | exact .inl (DLe.refl _) | exact .inl (DLe.nil _ _) | (refine .inr ⟨rfl, _, ?_, rfl⟩; rfl) | exact rfl | exact .inl rfl | exact .inr ⟨rfl, rfl, rfl, rfl⟩ | exact Nat.zero_le _ | constructor)
                · repeat' (first | exact trivial | exact .inl (DLe.refl _) | exact .inl (DLe.nil _ _) | (refine .inr ⟨rfl, _, ?_, rfl⟩; rfl) | exact rfl | exact .inl rfl | exact .inr ⟨rfl, rfl, rfl, rfl⟩ | exact Nat.zero_le _ | constructor)
                obtain ⟨rfl, rfl⟩ : FR = L2 ∧ T' = T2 := by rw [hg] at hL; exact ⟨congrArg Prod.fst hL, congrArg Prod.snd hL⟩
                conv => whnf
                refine ⟨?_, trivial⟩
                · conv => whnf
                  refine CallVC.look hsame rfl ?_
                  rintro _ rfl
                  conv => whnf
                  refine ⟨?_, trivial⟩
                  · conv => whnf
                    refine ⟨⟨(d', S1, S2), f1, f2, f3, f4⟩, [], [], ?_⟩
                    repeat' (first | exact trivial | exact .inl (DLe.refl _) | exact .inl (DLe.nil _ _) | (refine .inr ⟨rfl, _, ?_, rfl⟩; rfl) | exact rfl | exact .inl rfl | exact .inr ⟨rfl, rfl, rfl, rfl⟩ | exact Nat.zero_le _ | constructor)
        · conv => whnf
          refine ⟨?_, ?_, trivial⟩
          · conv => whnf
            refine CallVC.ar (i := 0) hheard rfl rfl ?_
            rintro _ _ S1 ⟨rfl, d', rfl, f1, f2, f3, f4⟩
            conv => whnf
            refine ⟨?_, trivial⟩
            · conv => whnf
              refine ⟨?_, trivial⟩
              · conv => whnf
                refine CallVC.cov (args1 := [netQ c, intD x.nic, .agg (arpD ⟨x.op, [x.x0, x.x1, x.x2, x.x3, x.x4, x.x5], x.sip, [x.y0, x.y1, x.y2, x.y3, x.y4, x.y5], x.dip⟩)]) [] [] ⟨[(100, sentsR FR), (10, .loc 2 0), (9, intD k), (8, netQ c), (7, netP c cg), (2, ndsR l)], nqH (arL S1 (cacheM d')) S' c now T [(2, .cells 47 (ndC x))], 3, ([], 0)⟩ ?_ ?_ (rheard_vc _ _ _ _ S' c z now T x.nic x.op x.sip x.dip x.x0 x.x1 x.x2 x.x3 x.x4 x.x5 x.y0 x.y1 x.y2 x.y3 x.y4 x.y5 hw hz hz2 hI.st.sort (by omega) (by omega) (fun y hy => (hI.all.one y hy).ws) hxo.op hxo.sip hxo.dip rfl rfl (fun _ _ _ => rfl) (nd_lo x) fun S2 L2 T2 hL => ?_)
                · repeat' (first | exact trivial | exact .inl (DLe.refl _) | exact .inl (DLe.nil _ _) | (refine .inr ⟨rfl, _, ?_, rfl⟩; rfl) | exact rfl | exact .inl rfl | exact .inr ⟨rfl, rfl, rfl, rfl⟩ | exact Nat.zero_le _ | constructor)
                · repeat' (first | exact trivial | exact .inl (DLe.refl _) | exact .inl (DLe.nil _ _) | (refine .inr ⟨rfl, _, ?_, rfl⟩; rfl) | exact rfl | exact .inl rfl | exact .inr ⟨rfl, rfl, rfl, rfl⟩ | exact Nat.zero_le _ | constructor)
                obtain ⟨rfl, rfl⟩ : FR = L2 ∧ T' = T2 := by rw [hg] at hL; exact ⟨congrArg Prod.fst hL, congrArg Prod.snd hL⟩
                conv => whnf
                refine ⟨?_, trivial⟩
                · conv => whnf
                  refine CallVC.look hsame rfl ?_
                  rintro _ rfl
                  conv => whnf
                  refine ⟨?_, trivial⟩
                  · conv => whnf
                    refine ⟨⟨(d', S1, S2), f1, f2, f3, f4⟩, [], [], ?_⟩
                    repeat' (first | exact trivial | exact .inl (DLe.refl _) | exact .inl (DLe.nil _ _) | (refine .inr ⟨rfl, _, ?_, rfl⟩; rfl) | exact rfl | exact .inl rfl | exact .inr ⟨rfl, rfl, rfl, rfl⟩ | exact Nat.zero_le _ | constructor)
          · conv => whnf
            refine ⟨?_, trivial⟩
            · conv => whnf
              refine CallVC.ar (i := 0) hheard rfl rfl ?_
              rintro _ _ S1 ⟨rfl, d', rfl, f1, f2, f3, f4⟩
              conv => whnf
              refine ⟨?_, trivial⟩
              · conv => whnf
                refine CallVC.cov (args1 := [netQ c, intD x.nic, .agg (arpD ⟨x.op, [x.x0, x.x1, x.x2, x.x3, x.x4, x.x5], x.sip, [x.y0, x.y1, x.y2, x.y3, x.y4, x.y5], x.dip⟩)]) [] [] ⟨[(100, sentsR FR), (10, .loc 2 0), (9, intD k), (8, netQ c), (7, netP c cg), (2, ndsR l)], nqH (arL S1 (cacheM d')) S' c now T [(2, .cells 47 (ndC x))], 3, ([], 0)⟩ ?_ ?_ (rheard_vc _ _ _ _ S' c z now T x.nic x.op x.sip x.dip x.x0 x.x1 x.x2 x.x3 x.x4 x.x5 x.y0 x.y1 x.y2 x.y3 x.y4 x.y5 hw hz hz2 hI.st.sort (by omega) (by omega) (fun y hy => (hI.all.one y hy).ws) hxo.op hxo.sip hxo.dip rfl rfl (fun _ _ _ => rfl) (nd_lo x) fun S2 L2 T2 hL => ?_)
                · repeat' (first | exact trivial | exact .inl (DLe.refl _) | exact .inl (DLe.nil _ _) | (refine .inr ⟨rfl, _, ?_, rfl⟩; rfl) | exact rfl | exact .inl rfl | exact .inr ⟨rfl, rfl, rfl, rfl⟩ | exact Nat.zero_le _ | constructor)
                · repeat' (first | exact trivial | exact .inl (DLe.refl _) | exact .inl (DLe.nil _ _) | (refine .inr ⟨rfl, _, ?_, rfl⟩; rfl) | exact rfl | exact .inl rfl | exact .inr ⟨rfl, rfl, rfl, rfl⟩ | exact Nat.zero_le _ | constructor)
                obtain ⟨rfl, rfl⟩ : FR = L2 ∧ T' = T2 := by rw [hg] at hL; exact ⟨congrArg Prod.fst hL, congrArg Prod.snd hL⟩
                conv => whnf
                refine ⟨?_, trivial⟩
                · conv => whnf
                  refine CallVC.look hsame rfl ?_
                  rintro _ rfl
                  conv => whnf
                  refine ⟨?_, trivial⟩
                  · conv => whnf
                    refine ⟨⟨(d', S1, S2), f1, f2, f3, f4⟩, [], [], ?_⟩
                    repeat' (first | exact trivial | exact .inl (DLe.refl _) | exact .inl (DLe.nil _ _) | (refine .inr ⟨rfl, _, ?_, rfl⟩; rfl) | exact rfl | exact .inl rfl | exact .inr ⟨rfl, rfl, rfl, rfl⟩ | exact Nat.zero_le _ | constructor)
      obtain ⟨⟨d', S1, S2⟩, f1, f2, f3, f4⟩ := b
      dsimp only at f1 f2 f3 f4 ⊢
      have hI3 : NI c cg (k + 1) now d' T' := ⟨f1, f2, f3, ⟨hnow.1, by omega⟩, f4, g1⟩
      clear hheard hg
      generalize now = now2 at hI3 ⊢
      conv => whnf
      have hrw := qc_look (c := c) (now := now2) ⟨_, Tryz.func17, rfl⟩ (rwaits_fn c now2 T' (by have := hI3.all.len; omega) (by have := hI3.all.wts; omega))
      refine CallVC.nwaits2 (i := 0) hI3 rfl ?_
      conv => whnf
      refine CallVC.look hrw rfl ?_
      rintro _ rfl
      clear hrw
      conv => whnf
      refine Fork.intro (fun q6 => ?_) (fun q6 => ?_)
      · exact absurd q6 (by simp)
      conv => whnf
      refine pv_loadSp ttH rfl rfl rfl ?_
      rintro _ nx ⟨rfl, _⟩
      refine ⟨_, _, _, rfl, rfl, .inr ⟨1, Pl, _, 12, oneC c, T', rfl, rfl, fun row hrow => ?_⟩⟩
      conv => whnf
      refine pv_lenS (row := row) ttH hrow rfl rfl ?_
      conv => whnf
      refine CallVC.nlen2 (i := 0) hI3 rfl ?_
      conv => whnf
      refine Fork.intro (fun q7 => ?_) (fun q7 => ?_)
      · exact absurd q7 (by simp)
      conv => whnf
      rw [ek]
      refine ⟨(k + 1, now2, d', T', S1, S2), [], [], ?_, ⟨q2', hI3⟩, by show 60 - (k + 1) < 60 - k; omega⟩
      repeat' (first | exact trivial | exact .inl (DLe.refl _) | exact .inl (DLe.nil _ _) | (refine .inr ⟨rfl, _, ?_, rfl⟩; rfl) | exact rfl | exact .inl rfl | exact .inr ⟨rfl, rfl, rfl, rfl⟩ | exact Nat.zero_le _ | constructor)
    | false =>
      have htick := stick_ar z d T (by rw [hI.hcc]; exact hw) (by rw [hI.hcc]; exact hz) hI.st hI.all.ok (by omega) (by omega) (by rw [hI.hnow]; omega) (fun y hy => (hI.all.one y hy).nic)
      rw [hI.hcg, hI.hcc, hI.hnow] at htick
      obtain ⟨g1, g2, g3⟩ := tick_facts (c := c) (z := z) hnow.1 hI.all
      have hsame : FnN Tryz.prog 11 [sentsR (tickS c z now T).1, sentsR (tickS c z now T).1] fun d => d = boolD true := (FnN.of_flat (rsame_fn (tickS c z now T).1 (tickS c z now T).1 (by omega) (fun y hy => Nat.le_trans (g3 y hy) (by decide))) (fun d e => by rw [e]; rfl)).mono fun d e => by rw [e, decide_eq_true rfl]
      conv => whnf
      refine CallVC.ar (i := 0) htick rfl rfl ?_
      rintro _ _ S1 ⟨rfl, d', rfl, f1, f2, f3, f4⟩
      clear htick
      conv => whnf
      refine CallVC.cov (args1 := [netQ c]) [] [] ⟨[(17, intD (tickS c z now T).2), (16, sentsR (tickS c z now T).1), (10, .loc 2 0), (9, intD k), (8, netQ c), (7, netP c cg), (2, ndsR l)], nqH (arL S1 (cacheM d')) S' c now T [(2, .cells 47 (ndC x))], 3, ([], 0)⟩ ?_ ?_ (rtick_vc _ _ _ _ S' c z now T hw hz hz2 hI.st.sort hI.all.ok (by omega) (by omega) (by omega) (fun y hy => by have := (hI.all.one y hy).due; omega) (fun y hy => (hI.all.one y hy).nic) rfl rfl (fun _ _ _ => rfl) (nd_lo x) fun S2 => ?_)
      · repeat' (first | exact trivial | exact .inl (DLe.refl _) | exact .inl (DLe.nil _ _) | (refine .inr ⟨rfl, _, ?_, rfl⟩; rfl) | exact rfl | exact .inl rfl | exact .inr ⟨rfl, rfl, rfl, rfl⟩ | exact Nat.zero_le _ | constructor)
      · repeat' (first | exact trivial | exact .inl (DLe.refl _) | exact .inl (DLe.nil _ _) | (refine .inr ⟨rfl, _, ?_, rfl⟩; rfl) | exact rfl | exact .inl rfl | exact .inr ⟨rfl, rfl, rfl, rfl⟩ | exact Nat.zero_le _ | constructor)
      have hI3 : NI c cg (k + 1) (now + 1) d' (tickT c (now + 1) T) := ⟨f1, f2, f3, ⟨by omega, by omega⟩, f4, g1⟩
      generalize tickS c z now T = W at hsame ⊢
      obtain ⟨FR, lost⟩ := W
      clear g1 g2 g3 f3 hnow
      generalize tickT c (now + 1) T = T' at hI3 f4 ⊢
      generalize now + 1 = now2 at hI3 ⊢
      dsimp only at hsame ⊢
      conv => whnf
      refine CallVC.look hsame rfl ?_
      rintro _ rfl
      conv => whnf
      refine Fork.intro (fun q4 => ?_) (fun q4 => ?_)
      · exact absurd q4 (by simp)
      conv => whnf
      have hrw := qc_look (c := c) (now := now2) ⟨_, Tryz.func17, rfl⟩ (rwaits_fn c now2 T' (by have := hI3.all.len; omega) (by have := hI3.all.wts; omega))
      refine CallVC.nwaits2 (i := 0) hI3 rfl ?_
      conv => whnf
      refine CallVC.look hrw rfl ?_
      rintro _ rfl
      clear hrw
      conv => whnf
      refine Fork.intro (fun q6 => ?_) (fun q6 => ?_)
      · exact absurd q6 (by simp)
      conv => whnf
      refine pv_loadSp ttH rfl rfl rfl ?_
      rintro _ nx ⟨rfl, _⟩
      refine ⟨_, _, _, rfl, rfl, .inr ⟨1, Pl, _, 12, oneC c, T', rfl, rfl, fun row hrow => ?_⟩⟩
      conv => whnf
      refine pv_lenS (row := row) ttH hrow rfl rfl ?_
      conv => whnf
      refine CallVC.nlen2 (i := 0) hI3 rfl ?_
      conv => whnf
      refine Fork.intro (fun q7 => ?_) (fun q7 => ?_)
      · exact absurd q7 (by simp)
      conv => whnf
      rw [ek]
      refine ⟨(k + 1, now2, d', T', S1, S2), [], [], ?_, ⟨q2', hI3⟩, by show 60 - (k + 1) < 60 - k; omega⟩
      repeat' (first | exact trivial | exact .inl (DLe.refl _) | exact .inl (DLe.nil _ _) | (refine .inr ⟨rfl, _, ?_, rfl⟩; rfl) | exact rfl | exact .inl rfl | exact .inr ⟨rfl, rfl, rfl, rfl⟩ | exact Nat.zero_le _ | constructor)
end Go.Proofs.YtfepckbhnghpeaaGreat.V
namespace Go.Proofs.YtfepckbhnghpeaaGreat.V
open Go.RowKit
attribute [local irreducible] Fn FnN FnR OpVC DLe ArC ArL Ob ObS NewS

def cU (i : Nat) : Int := [2, 0, 0, 0, 0, 1, 2, 0, 0, 0, 0, 2, 167772161, 167837697, 24, 24, 167772414, 1500, 1, 2, 3, 4, 7000, 13, 8, 8, 64, 8, 8, 100, 2, 3, 5, 30, 4, 10, 3, 2, 2, 2].getD i 0
def zU (i : Nat) : Nat := (cU i).toNat
theorem usual_fn : Fn Tryz.prog 24 [] fun d => d = .agg (cfgC cU) := by
  refine fnOf [] Tryz.func24 rfl (by kernel_rfl) (Nat.le_of_ble_eq_true rfl) ?_
  conv => whnf
  rfl
theorem cU_w : cfgW cU := fun i k h => by
  have hi : i < 40 := (List.getElem?_eq_some_iff.1 h).1
  have key : ∀ j, j < 40 → ∀ q, confKs[j]? = some q → (Lit.int q (cU j)).wf = true := by decide +kernel
  exact key i hi k h
def pU : Pkt := ⟨0, 0, false, false, 0, 0, 0, 0, 167837701, [], [1]⟩
theorem pU_ok : pU.ok := ⟨by decide, by decide, by decide, by decide, by decide, by decide, by decide, .nil, .cons (by decide) .nil⟩
def aU : Arp := ⟨2, [2, 7, 0, 0, 0, 0], 167837701, [0, 0, 0, 0, 0, 0], 167837697⟩
theorem sendU : sendT cU zU 0 [] pU = (([askS zU (1, 167837701)], -1), [⟨1, 167837701, false, mac0, 1, 2, [putP pU]⟩]) := by kernel_rfl
theorem heardU : heardT cU zU 0 [⟨1, 167837701, false, mac0, 1, 2, [putP pU]⟩] 1 aU = ([frameS zU 1 [2, 7, 0, 0, 0, 0] (putP pU)], [⟨1, 167837701, true, macI [2, 7, 0, 0, 0, 0], 0, 100, []⟩]) := by kernel_rfl
theorem pktU : DLe (.agg [u8D 0, u16D 0, boolD false, boolD false, u16D 0, u8D 0, u8D 0, u32D 0, u32D 167837701, .v (.slice none 0 0), .lit 1 [[u8D 1]]]) (.agg (pktD pU)) :=
  dleAgg ⟨DLe.refl _, DLe.refl _, DLe.refl _, DLe.refl _, DLe.refl _, DLe.refl _, DLe.refl _, DLe.refl _, DLe.refl _, DLe.nil _ _, dleLit (L := [1]) octE_flat, trivial⟩
set_option maxRecDepth 10000 in
set_option maxHeartbeats 4000000 in
theorem lives37_fn : Fn Tryz.prog 5 [] fun d => d = boolD true := by
  refine fnE_of_wpc (H0 := [(0, arE)]) (nx0 := 1) (pl := []) (fun id o h => ?_) ttH ebH mxH Tryz.func5 rfl (by kernel_rfl) (Nat.le_of_ble_eq_true rfl) ?_
  · by_cases h0 : id = 0
    · subst h0; rw [lget_same] at h; injection h with h; exact ⟨by decide, h.symm⟩
    · rw [lget_ne _ _ h0] at h; cases h
  have hus := usual_fn
  have hnew := snew_ar cU 0
  rw [show min (max (0 : Int) 0) 1073741824 = 0 by decide] at hnew
  conv => whnf
  (refine CallVC.pure (hus) rfl ?_; rintro _ rfl; conv => whnf)
  refine CallVC.arN (i := 0) hnew rfl rfl (fun _ => rfl) ?_
  rintro _ _ S0 ⟨cg, mg, hok0, rfl, rfl⟩
  have hst0 := stand_new _ _ _ _ hok0
  have hz := (cfgZ_of cU_w).1
  have hsend := send_ar zU (cdat0 cg mg cU 0) [] pU cU_w hz hst0 (fun x hx => absurd hx List.not_mem_nil) (fun x hx => absurd hx List.not_mem_nil) ⟨Int.le_refl _, by show (0 : Int) ≤ 2000000000; decide⟩ (by decide) pU_ok ⟨by decide, by decide⟩
  have hs : sendT (cdat0 cg mg cU 0).c zU (cdat0 cg mg cU 0).now [] pU = (([askS zU (1, 167837701)], -1), [⟨1, 167837701, false, mac0, 1, 2, [putP pU]⟩]) := sendU
  rw [hs] at hsend
  dsimp only at hsend
  conv => whnf
  refine ⟨by decide, ?_⟩
  conv => whnf
  refine CallVC.wk (fun C vs hr => reps_one (l := [netP cU cg]) (r := []) pktU hr) (CallVC.ar (i := 0) hsend rfl rfl ?_)
  rintro _ _ S1 ⟨rfl, d', rfl, f1, f2, f3, f4⟩
  have hheard := heard_ar zU d' _ 1 2 167837701 167837697 2 7 0 0 0 0 0 0 0 0 0 0 (by rw [f2]; exact cU_w) (by rw [f2]; exact hz) f4 (by rw [f3]; exact ⟨Int.le_refl _, by show (0 : Int) ≤ 2000000000; decide⟩) (by show 1 ≤ 1000; decide) (fun x hx b hb => by
    rw [List.mem_singleton.1 hx] at hb
    rw [List.mem_singleton.1 hb]
    have := putP_len (p := pU) ⟨by decide, by decide⟩
    omega) (by decide) (by decide) (by decide)
  rw [f1, f2, f3] at hheard
  have hh : heardT (cdat0 cg mg cU 0).c zU (cdat0 cg mg cU 0).now [⟨1, 167837701, false, mac0, 1, 2, [putP pU]⟩] 1 ⟨2, [2, 7, 0, 0, 0, 0], 167837701, [0, 0, 0, 0, 0, 0], 167837697⟩ = ([frameS zU 1 [2, 7, 0, 0, 0, 0] (putP pU)], [⟨1, 167837701, true, macI [2, 7, 0, 0, 0, 0], 0, 100, []⟩]) := heardU
  rw [hh] at hheard
  dsimp only at hheard
  conv => whnf
  refine CallVC.ar (i := 0) hheard rfl rfl ?_
  rintro _ _ S2 ⟨rfl, d2, rfl, k1, k2, k3, k4⟩
  conv => whnf
  refine ⟨rfl, ⟨by decide, by decide⟩, fun y hy => ?_⟩
  obtain rfl : askS zU (1, 167837701) = y := Option.some.inj hy
  conv => whnf
  refine ⟨rfl, ⟨by decide, by decide⟩, fun y hy => ?_⟩
  obtain rfl : frameS zU 1 [2, 7, 0, 0, 0, 0] (putP pU) = y := Option.some.inj hy
  conv => whnf
  refine ⟨rfl, ⟨by decide, by rw [frameS_len]; show (1 : Int) < ((6 + 8 + (putP pU).length : Nat) : Int); omega⟩, fun y hy => ?_⟩
  obtain rfl : 7 = y := Option.some.inj hy
  conv => whnf
  try rfl
end Go.Proofs.YtfepckbhnghpeaaGreat.V
