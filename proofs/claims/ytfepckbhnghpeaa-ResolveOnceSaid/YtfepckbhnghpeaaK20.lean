/-
  What frames a net sends, and how many of them bear packets (plain words). No condition.
  The law ResolveOnce by value, where lives is true. Conditions: numbers of their types. (Printed by gen_ob.py.)
-/
import Derived.Test.YtfepckbhnghpeaaK18
namespace Go.Proofs.Ytfepckbhnghpeaa.V
open Go.RowKit

theorem parse_put (d0 d1 d2 d3 d4 d5 s0 s1 s2 s3 s4 s5 t : Nat) (l : List Nat) (h1 : 1536 ≤ t) (h2 : t < 65536) : parseE (putE ⟨[d0, d1, d2, d3, d4, d5], [s0, s1, s2, s3, s4, s5], t, l⟩) = (⟨[d0, d1, d2, d3, d4, d5], [s0, s1, s2, s3, s4, s5], t, l⟩, 0) := by
  have e : putE ⟨[d0, d1, d2, d3, d4, d5], [s0, s1, s2, s3, s4, s5], t, l⟩ = d0 :: d1 :: d2 :: d3 :: d4 :: d5 :: s0 :: s1 :: s2 :: s3 :: s4 :: s5 :: (t / 256 % 256) :: (t % 256) :: l := rfl
  rw [e]
  have hg : get16 (d0 :: d1 :: d2 :: d3 :: d4 :: d5 :: s0 :: s1 :: s2 :: s3 :: s4 :: s5 :: (t / 256 % 256) :: (t % 256) :: l) 12 = t := by
    rw [get16_two (a := t / 256 % 256) (b := t % 256) rfl rfl (by omega) (by omega)]
    omega
  unfold parseE
  rw [hg, decide_eq_false (show ¬ (d0 :: d1 :: d2 :: d3 :: d4 :: d5 :: s0 :: s1 :: s2 :: s3 :: s4 :: s5 :: (t / 256 % 256) :: (t % 256) :: l).length < 14 by simp only [List.length_cons]; omega), decide_eq_false (show ¬ t < 1536 by omega)]
  have hc : cutP (d0 :: d1 :: d2 :: d3 :: d4 :: d5 :: s0 :: s1 :: s2 :: s3 :: s4 :: s5 :: (t / 256 % 256) :: (t % 256) :: l) 14 ((d0 :: d1 :: d2 :: d3 :: d4 :: d5 :: s0 :: s1 :: s2 :: s3 :: s4 :: s5 :: (t / 256 % 256) :: (t % 256) :: l).length - 14) = l := by
    have hl : (d0 :: d1 :: d2 :: d3 :: d4 :: d5 :: s0 :: s1 :: s2 :: s3 :: s4 :: s5 :: (t / 256 % 256) :: (t % 256) :: l).length - 14 = l.length := by simp only [List.length_cons]; omega
    rw [hl]
    unfold cutP
    rw [decide_eq_true (show 14 + l.length ≤ (d0 :: d1 :: d2 :: d3 :: d4 :: d5 :: s0 :: s1 :: s2 :: s3 :: s4 :: s5 :: (t / 256 % 256) :: (t % 256) :: l).length by simp only [List.length_cons]; omega)]
    show l.take l.length = l
    exact List.take_length
  dsimp only
  rw [hc]
  rfl

def FrK (z : Nat → Nat) (K : Frm → Prop) (x : Sn2) : Prop := (x.1 = 0 ∨ x.1 = 1) ∧ ∃ d0 d1 d2 d3 d4 d5 t l, x.2 = putE ⟨[d0, d1, d2, d3, d4, d5], macZ z x.1, t, l⟩ ∧ Byt x.2 ∧ x.2.length ≤ 3000 ∧ l.length ≤ 3000 ∧ (t = 2054 ∨ t = 2048 ∧ K ⟨[d0, d1, d2, d3, d4, d5], macZ z x.1, t, l⟩)
def ipX (x : Sn2) : Nat := match decide ((parseE x.2).1.type = 2048) with
  | true => 1
  | false => 0
def ipN : List Sn2 → Nat
  | [] => 0
  | x :: r => ipX x + ipN r
theorem ipN_app : ∀ A B : List Sn2, ipN (A ++ B) = ipN A + ipN B
  | [], B => (Nat.zero_add _).symm
  | x :: r, B => by
    show ipX x + ipN (r ++ B) = ipX x + ipN r + ipN B
    rw [ipN_app r B, Nat.add_assoc]
theorem ipN_snoc {L : List Sn2} {k : Nat} {x : Sn2} (h : L[k]? = some x) : ipN (L.take (k + 1)) = ipN (L.take k) + ipX x := by
  rw [List.take_add_one, h, Option.toList_some, ipN_app]
  rfl
theorem ipN_le : ∀ L : List Sn2, ipN L ≤ L.length
  | [] => Nat.le_refl _
  | x :: r => by
    have := ipN_le r
    show ipX x + ipN r ≤ r.length + 1
    have : ipX x ≤ 1 := by unfold ipX; split <;> omega
    omega
theorem parse_mac (d0 d1 d2 d3 d4 d5 : Nat) (z : Nat → Nat) (nic : Int) (t : Nat) (l : List Nat) (h1 : 1536 ≤ t) (h2 : t < 65536) : parseE (putE ⟨[d0, d1, d2, d3, d4, d5], macZ z nic, t, l⟩) = (⟨[d0, d1, d2, d3, d4, d5], macZ z nic, t, l⟩, 0) := by
  unfold macZ
  split
  · exact parse_put _ _ _ _ _ _ _ _ _ _ _ _ _ _ h1 h2
  · exact parse_put _ _ _ _ _ _ _ _ _ _ _ _ _ _ h1 h2
theorem ip_frame (z : Nat → Nat) (nic : Int) (d0 d1 d2 d3 d4 d5 : Nat) (l : List Nat) : ipX (frameS z nic [d0, d1, d2, d3, d4, d5] l) = 1 := by
  unfold ipX frameS
  rw [parse_mac _ _ _ _ _ _ _ _ _ _ (by decide) (by decide)]
  rfl
theorem ip_ask (z : Nat → Nat) (k : Int × Int) : ipX (askS z k) = 0 := by
  unfold ipX askS
  rw [parse_mac _ _ _ _ _ _ _ _ _ _ (by decide) (by decide)]
  rfl
theorem ip_answer (z : Nat → Nat) (nic : Int) (op sip dip d0 d1 d2 d3 d4 d5 y0 y1 y2 y3 y4 y5 : Nat) : ipX (answerS z nic ⟨op, [d0, d1, d2, d3, d4, d5], sip, [y0, y1, y2, y3, y4, y5], dip⟩) = 0 := by
  unfold ipX answerS
  rw [parse_mac _ _ _ _ _ _ _ _ _ _ (by decide) (by decide)]
  rfl

/-! ### Bytes -/
def ZB (z : Nat → Nat) : Prop := ∀ i, i < 12 → z i < 256
theorem byt6 {a b c d e f : Nat} (h0 : a < 256) (h1 : b < 256) (h2 : c < 256) (h3 : d < 256) (h4 : e < 256) (h5 : f < 256) : Byt [a, b, c, d, e, f] := by
  intro q hq
  simp only [List.mem_cons, List.not_mem_nil, or_false] at hq
  omega
theorem macZ_byt {z : Nat → Nat} (h : ZB z) (nic : Int) : Byt (macZ z nic) := by
  unfold macZ
  split
  · exact byt6 (h 0 (by decide)) (h 1 (by decide)) (h 2 (by decide)) (h 3 (by decide)) (h 4 (by decide)) (h 5 (by decide))
  · exact byt6 (h 6 (by decide)) (h 7 (by decide)) (h 8 (by decide)) (h 9 (by decide)) (h 10 (by decide)) (h 11 (by decide))
theorem putE_byt {f : Frm} (h1 : Byt f.dst) (h2 : Byt f.src) (h3 : Byt f.data) : Byt (putE f) := bytA (bytA (bytA h1 h2) (b2_byt _)) h3
theorem putA_byt {a : Arp} (h1 : Byt a.srcMac) (h2 : Byt a.dstMac) : Byt (putA a) := bytA (bytA (bytA (by unfold firstA; exact byt6 (by decide) (by decide) (by decide) (by decide) (by decide) (by decide)) (b2_byt _)) (bytA h1 (b4_byt _))) (bytA h2 (b4_byt _))
theorem putP_byt {p : Pkt} (h : p.ok) (hm : mayP p = true) : Byt (putP p) := bytA (headP_byt h (mayP_of hm).1 _) h.data
def MacB (m : Nat → Int) : Prop := ∀ i, 0 ≤ m i ∧ m i < 256
theorem macNL_byt {m : Nat → Int} (h : MacB m) : Byt (macNL m) := by
  have e : ∀ i, (m i).toNat < 256 := fun i => by have := h i; omega
  exact byt6 (e 0) (e 1) (e 2) (e 3) (e 4) (e 5)
theorem fr_frame {z : Nat → Nat} {K : Frm → Prop} (hz : ZB z) {nic : Int} (hn : nic = 0 ∨ nic = 1) {d0 d1 d2 d3 d4 d5 : Nat} {l : List Nat} (hd : Byt [d0, d1, d2, d3, d4, d5]) (hl : Byt l) (hll : l.length ≤ 1000) (hK : K ⟨[d0, d1, d2, d3, d4, d5], macZ z nic, 2048, l⟩) : FrK z K (frameS z nic [d0, d1, d2, d3, d4, d5] l) := by
  refine ⟨hn, d0, d1, d2, d3, d4, d5, 2048, l, rfl, putE_byt hd (macZ_byt hz nic) hl, ?_, by omega, .inr ⟨rfl, hK⟩⟩
  rw [frameS_len]
  show 6 + 8 + l.length ≤ _
  omega
theorem fr_ask {z : Nat → Nat} {K : Frm → Prop} (hz : ZB z) {k : Int × Int} (hn : k.1 = 0 ∨ k.1 = 1) : FrK z K (askS z k) := by
  have hb : Byt (putA ⟨1, macZ z k.1, addrZ z k.1, [0, 0, 0, 0, 0, 0], k.2.toNat⟩) := putA_byt (macZ_byt hz _) (byt6 (by decide) (by decide) (by decide) (by decide) (by decide) (by decide))
  refine ⟨hn, 255, 255, 255, 255, 255, 255, 2054, _, rfl, putE_byt (byt6 (by decide) (by decide) (by decide) (by decide) (by decide) (by decide)) (macZ_byt hz _) hb, by rw [askS_len]; decide, ?_, .inl rfl⟩
  rw [putA_len]
  show 16 + (macZ z k.1).length + 6 ≤ _
  rw [macZ_len]
  decide
theorem fr_answer {z : Nat → Nat} {K : Frm → Prop} (hz : ZB z) {nic : Int} (hn : nic = 0 ∨ nic = 1) {op sip dip d0 d1 d2 d3 d4 d5 y0 y1 y2 y3 y4 y5 : Nat} (hd : Byt [d0, d1, d2, d3, d4, d5]) : FrK z K (answerS z nic ⟨op, [d0, d1, d2, d3, d4, d5], sip, [y0, y1, y2, y3, y4, y5], dip⟩) := by
  have hb : Byt (putA ⟨2, macZ z nic, addrZ z nic, [d0, d1, d2, d3, d4, d5], sip⟩) := putA_byt (macZ_byt hz _) hd
  refine ⟨hn, d0, d1, d2, d3, d4, d5, 2054, _, rfl, putE_byt hd (macZ_byt hz _) hb, by rw [answerS_len]; show 30 + 2 * 6 ≤ _; decide, ?_, .inl rfl⟩
  rw [putA_len]
  show 16 + (macZ z nic).length + 6 ≤ _
  rw [macZ_len]
  decide

/-! ### What holds -/
structure POne (now : Int) (x : Pl) : Prop where
  due : 0 ≤ x.due ∧ x.due ≤ now + 4095
  ws : ∀ b ∈ x.ws, b.length ≤ 1000 ∧ Byt b
  mac : MacB x.mac
  nic : x.nic = 0 ∨ x.nic = 1
structure PAll (c : Nat → Int) (now : Int) (n : Nat) (T : List Pl) : Prop where
  one : ∀ x ∈ T, POne now x
  ok : TOk T
  len : T.length ≤ n
  wts : waitsT T ≤ n
  q : (waitsT T : Int) ≤ max 0 (c 28)
  m : (T.length : Int) ≤ max 0 (c 27)
theorem PAll.up {c : Nat → Int} {now : Int} {n : Nat} {T : List Pl} (h : PAll c now n T) : PAll c now (n + 1) T := ⟨h.one, h.ok, Nat.le_succ_of_le h.len, Nat.le_succ_of_le h.wts, h.q, h.m⟩
def whyN (why : Int) : Nat := match decide (why = -1) with
  | true => 1
  | false => 0
theorem send_plain {c : Nat → Int} {z : Nat → Nat} {now : Int} {n : Nat} {T : List Pl} {p : Pkt} (hw : cfgW c) (hz : ZB z) (h0 : 0 ≤ now) (hs : SortT T) (h : PAll c now n T) (hp : p.ok) (hl : p.opts.length ≤ 50 ∧ p.data.length ≤ 300) :
    PAll c now (n + 1) (sendT c z now T p).2 ∧ (sendT c z now T p).1.1.length ≤ 1 ∧ (∀ x ∈ (sendT c z now T p).1.1, FrK z (fun f => f.data = (ipB p).1) x) ∧ whyN (sendT c z now T p).1.2 + waitsT T = ipN (sendT c z now T p).1.1 + waitsT (sendT c z now T p).2 := by
  have hplen := putP_len hl
  have hok := ofN_ok hw (a := (p.dst : Int)) (by have := hp.dst; omega)
  unfold sendT
  cases hmay : mayP p with
  | false => exact ⟨h.up, Nat.zero_le _, fun x hx => (by cases hx), rfl⟩
  | true =>
    have hib : (ipB p).1 = putP p := by unfold ipB; rw [hmay]
    have hpb := putP_byt hp hmay
    rw [hib]
    dsimp only
    cases decide (c 17 < ((putP p).length : Int)) with
    | true => exact ⟨h.up, Nat.zero_le _, fun x hx => (by cases hx), rfl⟩
    | false =>
      dsimp only
      cases decide ((ofN p.dst c).2 = 0) with
      | false => exact ⟨h.up, Nat.zero_le _, fun x hx => (by cases hx), rfl⟩
      | true =>
        dsimp only
        cases hkn : knownT T (ofN p.dst c).1 with
        | some m =>
          obtain ⟨y, hy, hym⟩ := known_mem hkn
          have hmb : MacB m := hym ▸ (h.one y hy).mac
          refine ⟨h.up, Nat.le_refl _, fun x hx => ?_, ?_⟩
          · rw [List.mem_singleton.1 hx]
            exact fr_frame hz hok.1 (macNL_byt hmb) hpb (by omega) rfl
          · show 1 + waitsT T = ipX (frameS _ _ _ _) + 0 + waitsT T
            unfold macNL
            rw [ip_frame]
        | none =>
          have hcl := clampW_in (c 30)
          have hkw := keeps_want (now := now) hs h.ok h.q h.m (ofN p.dst c).1 (putP p)
          have hq : PAll c now (n + 1) (wantT c now T (ofN p.dst c).1 (putP p)).2 := by
            refine ⟨want_any _ _ ⟨⟨?_, ?_⟩, fun b hb => ?_, fun i => ⟨Int.le_refl _, by show (0 : Int) < 256; decide⟩, hok.1⟩ (fun x hx hq => ⟨hq.due, fun b hb => ?_, hq.mac, hq.nic⟩) h.one, want_ok h.ok _ _, ?_, ?_, ?_, ?_⟩
            · show 0 ≤ now + clampW (c 30); omega
            · show now + clampW (c 30) ≤ now + 4095; omega
            · rw [List.mem_singleton.1 hb]; exact ⟨by omega, hpb⟩
            · rcases List.mem_append.1 hb with hb | hb
              · exact hq.ws b hb
              · rw [List.mem_singleton.1 hb]; exact ⟨by omega, hpb⟩
            · have := want_len (c := c) (now := now) T (ofN p.dst c).1 (putP p); have := h.len; omega
            · have := want_waits_le (c := c) (now := now) hs (ofN p.dst c).1 (putP p); have := h.wts; omega
            · split at hkw
              · have := hkw.2.1; have := hkw.2.2.1; omega
              · rw [hkw]; exact h.q
            · split at hkw
              · exact hkw.2.2.2.1
              · rw [hkw]; exact h.m
          dsimp only
          have hww := want_waits (c := c) (now := now) hs (ofN p.dst c).1 (putP p)
          generalize wantT c now T (ofN p.dst c).1 (putP p) = W at hq hww ⊢
          obtain ⟨⟨ask, y⟩, T'⟩ := W
          unfold waitS
          dsimp only at hq hww ⊢
          cases hy : decide (y = 0) with
          | false =>
            rw [hy] at hww
            exact ⟨hq, Nat.zero_le _, fun x hx => (by cases hx), by show 0 + waitsT T = 0 + waitsT T'; dsimp only at hww; omega⟩
          | true =>
            rw [hy] at hww
            dsimp only at hww
            cases ask with
            | false => exact ⟨hq, Nat.zero_le _, fun x hx => (by cases hx), by show 1 + waitsT T = 0 + waitsT T'; omega⟩
            | true =>
              refine ⟨hq, Nat.le_refl _, fun x hx => ?_, ?_⟩
              · rw [List.mem_singleton.1 hx]
                exact fr_ask hz hok.1
              · show 1 + waitsT T = ipX (askS _ _) + 0 + waitsT T'
                rw [ip_ask]
                omega
theorem ip_map (z : Nat → Nat) (nic : Int) (d0 d1 d2 d3 d4 d5 : Nat) : ∀ L : List (List Nat), ipN (L.map (frameS z nic [d0, d1, d2, d3, d4, d5])) = L.length
  | [] => rfl
  | b :: r => by
    show ipX (frameS z nic [d0, d1, d2, d3, d4, d5] b) + ipN (r.map _) = r.length + 1
    rw [ip_frame, ip_map z nic d0 d1 d2 d3 d4 d5 r]
    omega
theorem heard_plain {c : Nat → Int} {z : Nat → Nat} {now : Int} {n : Nat} {T : List Pl} {nic : Int} {op sip dip d0 d1 d2 d3 d4 d5 y0 y1 y2 y3 y4 y5 : Nat} (hz : ZB z) (h0 : 0 ≤ now) (hs : SortT T) (h : PAll c now n T) (hd : Byt [d0, d1, d2, d3, d4, d5]) :
    PAll c now (n + 1) (heardT c z now T nic ⟨op, [d0, d1, d2, d3, d4, d5], sip, [y0, y1, y2, y3, y4, y5], dip⟩).2 ∧ (heardT c z now T nic ⟨op, [d0, d1, d2, d3, d4, d5], sip, [y0, y1, y2, y3, y4, y5], dip⟩).1.length ≤ n + 1 ∧ (∀ x ∈ (heardT c z now T nic ⟨op, [d0, d1, d2, d3, d4, d5], sip, [y0, y1, y2, y3, y4, y5], dip⟩).1, FrK z (fun f => f.dst = [d0, d1, d2, d3, d4, d5]) x) ∧
      waitsT T = ipN (heardT c z now T nic ⟨op, [d0, d1, d2, d3, d4, d5], sip, [y0, y1, y2, y3, y4, y5], dip⟩).1 + waitsT (heardT c z now T nic ⟨op, [d0, d1, d2, d3, d4, d5], sip, [y0, y1, y2, y3, y4, y5], dip⟩).2 := by
  unfold heardT
  cases hn : decide (nic = 0) || decide (nic = 1) with
  | false => exact ⟨h.up, Nat.zero_le _, fun x hx => (by cases hx), (Nat.zero_add _).symm⟩
  | true =>
    have hnic : nic = 0 ∨ nic = 1 := by
      rcases Bool.or_eq_true_iff.1 hn with hn | hn
      · exact .inl (of_decide_eq_true hn)
      · exact .inr (of_decide_eq_true hn)
    dsimp only
    have hL : ∀ a : Arp, a.srcMac = [d0, d1, d2, d3, d4, d5] → PAll c now (n + 1) (learnS c z now T nic a).2 ∧ (learnS c z now T nic a).1.length ≤ n ∧ (∀ b ∈ (learnS c z now T nic a).1, b.length ≤ 1000 ∧ Byt b) ∧ waitsT (learnS c z now T nic a).2 + (learnS c z now T nic a).1.length = waitsT T := fun a ha => by
      unfold learnS
      split
      · exact ⟨h.up, Nat.zero_le _, fun b hb => (by cases hb), rfl⟩
      · split
        · exact ⟨h.up, Nat.zero_le _, fun b hb => (by cases hb), rfl⟩
        · have hcl := clampW_in (c 29)
          have hwl := learn_waits (c := c) (now := now) hs (nic, (a.srcIP : Int)) (macI a.srcMac) (decide ((a.dstIP : Int) = (addrZ z nic : Int)))
          have hln := learn_len (c := c) (now := now) T (nic, (a.srcIP : Int)) (macI a.srcMac) (decide ((a.dstIP : Int) = (addrZ z nic : Int)))
          have hkl := keeps_learn (now := now) hs h.m (nic, (a.srcIP : Int)) (macI a.srcMac) (decide ((a.dstIP : Int) = (addrZ z nic : Int)))
          have htl : ∀ b ∈ (learnT c now T (nic, (a.srcIP : Int)) (macI a.srcMac) (decide ((a.dstIP : Int) = (addrZ z nic : Int)))).1.1, b.length ≤ 1000 ∧ Byt b := by
            unfold learnT
            cases hq : findT T (nic, (a.srcIP : Int)) with
            | none =>
              dsimp only
              split
              · intro b hb; cases hb
              · intro b hb; cases hb
            | some x =>
              dsimp only
              exact (h.one x (findT_mem hq).1).ws
          have := h.wts
          have := h.len
          have := h.q
          have hmb : MacB (macI a.srcMac) := fun i => by
            rw [ha]
            refine ⟨Int.natCast_nonneg _, ?_⟩
            show (([d0, d1, d2, d3, d4, d5].getD i 0 : Nat) : Int) < 256
            cases hq : [d0, d1, d2, d3, d4, d5][i]? with
            | none => rw [List.getD_eq_getElem?_getD, hq]; decide
            | some q => rw [List.getD_eq_getElem?_getD, hq]; have := hd q (List.mem_of_getElem? hq); show (q : Int) < 256; omega
          refine ⟨⟨learn_any _ _ _ ⟨⟨?_, ?_⟩, fun b hb => (by cases hb), hmb, hnic⟩ h.one, learn_ok h.ok _ _ _, by dsimp only; omega, by dsimp only; omega, by dsimp only; omega, ?_⟩, by dsimp only; omega, htl, hwl⟩
          · show 0 ≤ now + clampW (c 29); omega
          · show now + clampW (c 29) ≤ now + 4095; omega
          · dsimp only
            split at hkl
            · exact hkl.2.1
            · rw [hkl.2]; exact h.m
    obtain ⟨g1, g2, g3, g4⟩ := hL ⟨op, [d0, d1, d2, d3, d4, d5], sip, [y0, y1, y2, y3, y4, y5], dip⟩ rfl
    have hal : (ansL z nic ⟨op, [d0, d1, d2, d3, d4, d5], sip, [y0, y1, y2, y3, y4, y5], dip⟩).length ≤ 1 ∧ ipN (ansL z nic ⟨op, [d0, d1, d2, d3, d4, d5], sip, [y0, y1, y2, y3, y4, y5], dip⟩) = 0 ∧ ∀ x ∈ ansL z nic ⟨op, [d0, d1, d2, d3, d4, d5], sip, [y0, y1, y2, y3, y4, y5], dip⟩, FrK z (fun f => f.dst = [d0, d1, d2, d3, d4, d5]) x := by
      unfold ansL
      split
      · exact ⟨Nat.zero_le _, rfl, fun x hx => by cases hx⟩
      · split
        · exact ⟨Nat.zero_le _, rfl, fun x hx => by cases hx⟩
        · refine ⟨Nat.le_refl _, ?_, fun x hx => ?_⟩
          · show ipX (answerS _ _ _) + 0 = 0
            rw [ip_answer]
          · rw [List.mem_singleton.1 hx]
            exact fr_answer hz hnic hd
    refine ⟨g1, by rw [List.length_append, List.length_map]; omega, fun x hx => ?_, ?_⟩
    · rcases List.mem_append.1 hx with hx | hx
      · obtain ⟨b, hb, rfl⟩ := List.mem_map.1 hx
        exact fr_frame hz hnic hd (g3 b hb).2 (g3 b hb).1 rfl
      · exact hal.2.2 x hx
    · rw [ipN_app, ip_map, hal.2.1]
      omega
theorem ip_asks (z : Nat → Nat) : ∀ L : List (Int × Int), ipN (L.map (askS z)) = 0
  | [] => rfl
  | k :: r => by
    show ipX (askS z k) + ipN (r.map _) = 0
    rw [ip_ask, ip_asks z r]
theorem tick_plain {c : Nat → Int} {z : Nat → Nat} {now : Int} {n : Nat} {T : List Pl} (hz : ZB z) (h0 : 0 ≤ now) (h : PAll c now n T) :
    PAll c (now + 1) (n + 1) (tickT c (now + 1) T) ∧ (tickS c z now T).1.length ≤ n ∧ (∀ x ∈ (tickS c z now T).1, FrK z (fun _ => False) x) ∧ ipN (tickS c z now T).1 = 0 ∧ waitsT (tickT c (now + 1) T) + lostT c (now + 1) T = waitsT T := by
  have hcl := clampW_in (c 30)
  have hwe := waits_tickE c (now + 1) T
  have hl := tick_len c (now + 1) T
  have := h.len
  have := h.wts
  have := h.q
  have := h.m
  refine ⟨⟨tick_any (fun x hq => ⟨⟨hq.due.1, by have := hq.due.2; omega⟩, hq.ws, hq.mac, hq.nic⟩) (fun x hq => ⟨⟨?_, ?_⟩, hq.ws, hq.mac, hq.nic⟩) h.one, tick_ok h.ok, by omega, by omega, by omega, by omega⟩, ?_, fun x hx => ?_, ip_asks _ _, hwe⟩
  · show 0 ≤ now + 1 + clampW (c 30); omega
  · show now + 1 + clampW (c 30) ≤ now + 1 + 4095; omega
  · unfold tickS
    rw [List.length_map]
    exact Nat.le_trans (asks_len _ _ _) h.len
  · unfold tickS at hx
    obtain ⟨k, hk, rfl⟩ := List.mem_map.1 hx
    obtain ⟨y, hy, rfl⟩ := asks_keys hk
    exact fr_ask hz (h.one y hy).nic
end Go.Proofs.Ytfepckbhnghpeaa.V
namespace Go.Proofs.Ytfepckbhnghpeaa.V
open Go.RowKit
attribute [local irreducible] Fn FnN FnR OpVC DLe ArC ArL Ob ObS NewS

theorem eq6 (a b c d e f : Int) : eqD [u8D a, u8D b, u8D c, u8D d, u8D e, u8D f] [u8D a, u8D b, u8D c, u8D d, u8D e, u8D f] = true := by
  show (decide (a = a) && (decide (b = b) && (decide (c = c) && (decide (d = d) && (decide (e = e) && (decide (f = f) && true)))))) = true
  simp
theorem zb_of {c : Nat → Int} (h : cfgW c) : ZB (fun i => (c i).toNat) := fun i hi => by
  have hk : confKs[i]? = some .u8 := by
    revert hi
    revert i
    decide
  have := wf_u8 (h i _ hk)
  show (c i).toNat < 256
  omega
theorem right_bounds {c : Nat → Int} (h : rightR c = true) : c 27 ≤ 32 ∧ c 28 ≤ 64 := by
  unfold rightR at h
  simp only [Bool.and_eq_true] at h
  obtain ⟨⟨_, h1⟩, h2⟩ := h
  simp [allIn] at h1 h2
  omega

structure PI (c : Nat → Int) (cg n : Nat) (d : CDat) (T : List Pl) (took out lost : Nat) : Prop where
  hcg : d.cg = cg
  hcc : d.c = c
  nw : 0 ≤ d.now ∧ d.now ≤ 1073741824 + n
  st : CStand d T
  all : PAll c d.now n T
  sum : took = out + lost + waitsT T
  few : took ≤ n
theorem CallVC.nwaits3 {g : Bool} {s : St} {K : D → St → Prop} {i : Nat} {S : Nat → Prop} {c : Nat → Int} {cg n : Nat} {d : CDat} {T : List Pl} {a b e : Nat} (hI : PI c cg n d T a b e) (hid : lget s.H i = some (V.arL S (cacheM d))) (h : K (intD (waitsT T)) s) : CallVC Try.prog g 14 [netP c cg] s K := by
  rw [← hI.hcc, ← hI.hcg]
  exact CallVC.nwaits hid hI.st h
theorem CallVC.nlen3 {g : Bool} {s : St} {K : D → St → Prop} {i : Nat} {S : Nat → Prop} {c : Nat → Int} {cg n : Nat} {d : CDat} {T : List Pl} {a b e : Nat} (hI : PI c cg n d T a b e) (hid : lget s.H i = some (V.arL S (cacheM d))) (h : K (intD (T.length : Nat)) s) : CallVC Try.prog g 15 [netP c cg] s K := by
  rw [← hI.hcc, ← hI.hcg]
  exact CallVC.nlen hid hI.st h
set_option maxRecDepth 10000 in
set_option maxHeartbeats 32000000 in
theorem resolveOnce_fn (hlv : Fn Try.prog 5 [] fun d => d = boolD true) (c : Nat → Int) (hw : cfgW c) (l : List NDe) (hl : ∀ x ∈ l, x.ok) (hlb : ∀ x ∈ l, Byt x.arp.srcMac) : Fn Try.prog 3 [.agg (cfgC c), ndsR l] fun d => d = boolD true := by
  refine fnE_of_wpc (H0 := [(0, arE)]) (nx0 := 1) (pl := []) (fun id o h => ?_) ttH ebH mxH Try.func3 rfl (by kernel_rfl) (Nat.le_of_ble_eq_true rfl) ?_
  · by_cases h0 : id = 0
    · subst h0; rw [lget_same] at h; injection h with h; exact ⟨by decide, h.symm⟩
    · rw [lget_ne _ _ h0] at h; cases h
  obtain ⟨hz, hz2⟩ := cfgZ_of hw
  have hzb := zb_of hw
  generalize (fun i => (c i).toNat) = z at hz hzb
  have e0 := hz 0 (by decide)
  have e1 := hz 1 (by decide)
  have e2 := hz 2 (by decide)
  have e3 := hz 3 (by decide)
  have e4 := hz 4 (by decide)
  have e5 := hz 5 (by decide)
  have e6 := hz 6 (by decide)
  have e7 := hz 7 (by decide)
  have e8 := hz 8 (by decide)
  have e9 := hz 9 (by decide)
  have e10 := hz 10 (by decide)
  have e11 := hz 11 (by decide)
  have hright := rRight_fn c hw
  cases hrt : rightR c with
  | false =>
    rw [hrt] at hright
    conv => whnf
    (refine CallVC.pure (hright) rfl ?_; rintro _ rfl; conv => whnf)
    (refine CallVC.pure (hlv) rfl ?_; rintro _ rfl; conv => whnf)
  | true =>
  rw [hrt] at hright
  obtain ⟨hb27, hb28⟩ := right_bounds hrt
  have hnew := snew_ar c 0
  rw [show min (max (0 : Int) 0) 1073741824 = 0 by decide] at hnew
  conv => whnf
  (refine CallVC.pure (hright) rfl ?_; rintro _ rfl; conv => whnf)
  refine CallVC.ar (i := 0) hnew rfl rfl ?_
  rintro _ _ S0 ⟨cg, mg, hok0, rfl, rfl⟩
  have hst0 := stand_new _ _ _ _ hok0
  conv => whnf
  refine ⟨Nat × CDat × List Pl × (Nat → Prop) × Nat × Nat × Nat, fun x => ⟨[(9, intD x.1), (8, intD x.2.2.2.2.2.2), (7, intD x.2.2.2.2.2.1), (6, intD x.2.2.2.2.1), (5, netP c cg), (2, .loc 1 0), (1, ndsR l)], [(1, .cells 33 (cfgC c)), (0, arL x.2.2.2.1 (cacheM x.2.1))], 2, ([], 0)⟩,
    fun x => x.1 ≤ 60 ∧ PI c cg x.1 x.2.1 x.2.2.1 x.2.2.2.2.1 x.2.2.2.2.2.1 x.2.2.2.2.2.2, fun x => 60 - x.1, ⟨(0, cdat0 cg mg c 0, [], S0, 0, 0, 0), [], [], ?_, ⟨Nat.zero_le _, ⟨rfl, rfl, ⟨Int.le_refl _, by show (0 : Int) ≤ 1073741824 + ((0 : Nat) : Int); omega⟩, hst0, ⟨fun x hx => absurd hx List.not_mem_nil, fun x hx => absurd hx List.not_mem_nil, Nat.le_refl _, Nat.le_refl _, by show (0 : Int) ≤ _; omega, by show (0 : Int) ≤ _; omega⟩, rfl, Nat.le_refl _⟩⟩⟩, ?_⟩
  · repeat' (first | exact trivial | exact .inl (DLe.refl _) | exact .inl (DLe.nil _ _) | (refine .inr ⟨rfl, _, ?_, rfl⟩; rfl) | exact rfl | exact .inl rfl | exact .inr ⟨rfl, rfl, rfl, rfl⟩ | exact Nat.zero_le _ | constructor)
  clear hst0 hok0 hnew mg S0
  rintro ⟨k, d, T, S, took, out, lost⟩ ⟨hk, hI⟩
  dsimp only at hk hI ⊢
  have ek : IntKind.i64.wrap ((k : Int) + 1) = ((k + 1 : Nat) : Int) := by rw [IntWalk.i64_in _ (by omega)]; omega
  conv => whnf
  refine Fork.intro (fun q => ?_) (fun q => ?_)
  rotate_left
  · conv => whnf
    (refine CallVC.pure (hlv) rfl ?_; rintro _ rfl; conv => whnf)
  have q' : k < l.length := by have := of_decide_eq_true q; omega
  conv => whnf
  refine Fork.intro (fun q2 => ?_) (fun q2 => ?_)
  rotate_left
  · conv => whnf
    (refine CallVC.pure (hlv) rfl ?_; rintro _ rfl; conv => whnf)
  have q2' : k < 60 := by have := of_decide_eq_true q2; omega
  obtain ⟨x, hx⟩ : ∃ x, l[k]? = some x := ⟨_, List.getElem?_eq_getElem q'⟩
  have hxo := hl x (List.mem_of_getElem? hx)
  have hxb := hlb x (List.mem_of_getElem? hx)
  conv => whnf
  refine ⟨rfl, ⟨by omega, by omega⟩, fun y hy => ?_⟩
  obtain rfl : x = y := Option.some.inj (hx.symm.trans hy)
  conv => whnf
  have hfl := fewP_len x.p
  have hfo := fewP_ok hxo.p
  have hfew := rFewP_fn x.p
  (refine CallVC.pure (hfew) rfl ?_; rintro _ rfl; conv => whnf)
  have hnow := hI.nw
  have hlk := hI.all.len
  have hwk := hI.all.wts
  have htk := hI.few
  have hsm := hI.sum
  have hput := rPutP_fn (fewP x.p) hfo (by omega) (by omega)
  cases hkd : decide (x.kind = 0) with
  | true =>
    have hk1 : decide (x.kind = 1) = false := decide_eq_false (by have := of_decide_eq_true hkd; omega)
    have hsend := send_ar z d T (fewP x.p) (by rw [hI.hcc]; exact hw) (by rw [hI.hcc]; exact hz) hI.st hI.all.ok (fun y hy i => ((hI.all.one y hy).mac i).1) (by omega) (by omega) hfo hfl
    rw [hI.hcg, hI.hcc] at hsend
    obtain ⟨g1, g2, g3, g4⟩ := send_plain (c := c) (z := z) hw hzb hnow.1 hI.st.sort hI.all hfo hfl
    generalize sendT c z d.now T (fewP x.p) = W at hsend g1 g2 g3 g4
    obtain ⟨⟨FR, why⟩, T'⟩ := W
    dsimp only at hsend g1 g2 g3 g4
    conv => whnf
    refine CallVC.ar (i := 0) hsend rfl rfl ?_
    rintro _ _ S1 ⟨rfl, d', rfl, f1, f2, f3, f4⟩
    clear hsend
    rw [← f3] at g1
    unfold whyN at g4
    conv => whnf
    cases hwhy : decide (why = -1) with
    | true =>
      rw [hwhy] at g4
      dsimp only at g4
      have et : IntKind.i64.wrap ((took : Int) + 1) = ((took + 1 : Nat) : Int) := by rw [IntWalk.i64_in _ (by omega)]; omega
      have hI3 : PI c cg (k + 1) d' T' (took + 1) (out + ipN FR) lost := ⟨f1, f2, by rw [f3]; exact ⟨hnow.1, by omega⟩, f4, g1, by omega, by omega⟩
      have hfrl : FR.length ≤ 1000 := by omega
      conv => whnf
      rw [et]
      refine ⟨Nat, fun j => ⟨[(17, intD j), (12, .loc 3 0), (11, sentsR FR), (10, .loc 2 0), (9, intD k), (8, intD (lost : Nat)), (7, intD (out + ipN (FR.take j) : Nat)), (6, intD ((took + 1) : Nat)), (5, netP c cg), (2, .loc 1 0), (1, ndsR l)], [(3, .cells 41 (pktD (fewP x.p))), (2, .cells 45 (ndC x)), (1, .cells 33 (cfgC c)), (0, arL S1 (cacheM d'))], 4, ([], 0)⟩,
        fun j => j ≤ FR.length, fun j => FR.length - j, ⟨0, [], [], ?_, Nat.zero_le _⟩, ?_⟩
      · repeat' (first | exact trivial | exact .inl (DLe.refl _) | exact .inl (DLe.nil _ _) | (refine .inr ⟨rfl, _, ?_, rfl⟩; rfl) | exact rfl | exact .inl rfl | exact .inr ⟨rfl, rfl, rfl, rfl⟩ | exact Nat.zero_le _ | constructor)
      intro j hj
      replace hj : j ≤ FR.length := hj
      have ej : IntKind.i64.wrap ((j : Int) + 1) = ((j + 1 : Nat) : Int) := by rw [IntWalk.i64_in _ (by omega)]; omega
      dsimp only
      conv => whnf
      refine Fork.intro (fun q4 => ?_) (fun q4 => ?_)
      · have q4' : j < FR.length := by have := of_decide_eq_true q4; omega
        obtain ⟨fx, hfx⟩ : ∃ fx, FR[j]? = some fx := ⟨_, List.getElem?_eq_getElem q4'⟩
        obtain ⟨hnc, d0, d1, d2, d3, d4, d5, t, l2, he, hb, hl1, hl2, ht⟩ := g3 fx (List.mem_of_getElem? hfx)
        obtain ⟨fn, fb⟩ := fx
        dsimp only at hnc he hb hl1 ht
        have hib := ipN_le (FR.take j)
        have hit : (FR.take j).length ≤ 1000 := by rw [List.length_take]; omega
        have hsn := ipN_snoc hfx
        rcases hnc with rfl | rfl
        · have hp := rParseE_fn fb hb (by omega)
          have hmz : macZ z 0 = [z 0, z 1, z 2, z 3, z 4, z 5] := rfl
          rw [hmz] at he
          try rw [hmz] at ht
          rcases ht with rfl | ⟨rfl, hK⟩
          · have hpe : parseE fb = (⟨[d0, d1, d2, d3, d4, d5], [z 0, z 1, z 2, z 3, z 4, z 5], 2054, l2⟩, 0) := by rw [he]; exact parse_put _ _ _ _ _ _ _ _ _ _ _ _ _ _ (by decide) (by decide)
            have hix : ipX ((0 : Int), fb) = 0 := by unfold ipX; rw [hpe]; rfl
            rw [hpe] at hp
            rw [hix] at hsn
            have eo : out + ipN (FR.take (j + 1)) = out + ipN (FR.take j) := by rw [hsn]; omega
            conv => whnf
            refine ⟨rfl, ⟨by omega, by omega⟩, fun y hy => ?_⟩
            obtain rfl := Option.some.inj (hfx.symm.trans hy)
            conv => whnf
            (refine CallVC.pure (hp) rfl ?_; rintro _ rfl; conv => whnf)
            refine ⟨rfl, ⟨by omega, by omega⟩, fun y hy => ?_⟩
            obtain rfl := Option.some.inj (hfx.symm.trans hy)
            conv => whnf
            refine ⟨(show (0 : Int) ≤ 0 ∧ (0 : Int) < ((2 : Nat) : Int) by decide), ?_⟩
            conv => whnf
            refine ⟨by kernel_rfl, rfl, ?_⟩
            conv => whnf
            rw [e0, e1, e2, e3, e4, e5]
            rw [show eqD [u8D (z 0 : Int), u8D (z 1 : Int), u8D (z 2 : Int), u8D (z 3 : Int), u8D (z 4 : Int), u8D (z 5 : Int)] [u8D (z 0 : Int), u8D (z 1 : Int), u8D (z 2 : Int), u8D (z 3 : Int), u8D (z 4 : Int), u8D (z 5 : Int)] = true from eq6 _ _ _ _ _ _]
            conv => whnf
            rw [ej, ← eo]
            refine ⟨j + 1, [], [], ?_, q4', by show FR.length - (j + 1) < FR.length - j; omega⟩
            repeat' (first | exact trivial | exact .inl (DLe.refl _) | exact .inl (DLe.nil _ _) | (refine .inr ⟨rfl, _, ?_, rfl⟩; rfl) | exact rfl | exact .inl rfl | exact .inr ⟨rfl, rfl, rfl, rfl⟩ | exact Nat.zero_le _ | constructor)
          · have hpe : parseE fb = (⟨[d0, d1, d2, d3, d4, d5], [z 0, z 1, z 2, z 3, z 4, z 5], 2048, l2⟩, 0) := by rw [he]; exact parse_put _ _ _ _ _ _ _ _ _ _ _ _ _ _ (by decide) (by decide)
            have hix : ipX ((0 : Int), fb) = 1 := by unfold ipX; rw [hpe]; rfl
            rw [hpe] at hp
            rw [hix] at hsn
            have eo : IntKind.i64.wrap (((out + ipN (FR.take j) : Nat) : Int) + 1) = ((out + ipN (FR.take (j + 1)) : Nat) : Int) := by rw [hsn, IntWalk.i64_in _ (by omega)]; omega
            conv => whnf
            refine ⟨rfl, ⟨by omega, by omega⟩, fun y hy => ?_⟩
            obtain rfl := Option.some.inj (hfx.symm.trans hy)
            conv => whnf
            (refine CallVC.pure (hp) rfl ?_; rintro _ rfl; conv => whnf)
            refine ⟨rfl, ⟨by omega, by omega⟩, fun y hy => ?_⟩
            obtain rfl := Option.some.inj (hfx.symm.trans hy)
            conv => whnf
            refine ⟨(show (0 : Int) ≤ 0 ∧ (0 : Int) < ((2 : Nat) : Int) by decide), ?_⟩
            conv => whnf
            refine ⟨by kernel_rfl, rfl, ?_⟩
            conv => whnf
            rw [e0, e1, e2, e3, e4, e5]
            rw [show eqD [u8D (z 0 : Int), u8D (z 1 : Int), u8D (z 2 : Int), u8D (z 3 : Int), u8D (z 4 : Int), u8D (z 5 : Int)] [u8D (z 0 : Int), u8D (z 1 : Int), u8D (z 2 : Int), u8D (z 3 : Int), u8D (z 4 : Int), u8D (z 5 : Int)] = true from eq6 _ _ _ _ _ _]
            have hkd0 : l2 = (ipB (fewP x.p)).1 := hK
            conv => whnf
            rw [eo]
            (refine CallVC.pure (hput) rfl ?_; rintro _ rfl; conv => whnf)
            rw [hkd]
            conv => whnf
            have hsm2 := rSame_fn l2 (ipB (fewP x.p)).1 (by omega)
            rw [decide_eq_true hkd0] at hsm2
            (refine CallVC.pure (hsm2) rfl ?_; rintro _ rfl; conv => whnf)
            rw [hk1]
            conv => whnf
            rw [ej]
            refine ⟨j + 1, [], [], ?_, q4', by show FR.length - (j + 1) < FR.length - j; omega⟩
            repeat' (first | exact trivial | exact .inl (DLe.refl _) | exact .inl (DLe.nil _ _) | (refine .inr ⟨rfl, _, ?_, rfl⟩; rfl) | exact rfl | exact .inl rfl | exact .inr ⟨rfl, rfl, rfl, rfl⟩ | exact Nat.zero_le _ | constructor)
        · have hp := rParseE_fn fb hb (by omega)
          have hmz : macZ z 1 = [z 6, z 7, z 8, z 9, z 10, z 11] := rfl
          rw [hmz] at he
          try rw [hmz] at ht
          rcases ht with rfl | ⟨rfl, hK⟩
          · have hpe : parseE fb = (⟨[d0, d1, d2, d3, d4, d5], [z 6, z 7, z 8, z 9, z 10, z 11], 2054, l2⟩, 0) := by rw [he]; exact parse_put _ _ _ _ _ _ _ _ _ _ _ _ _ _ (by decide) (by decide)
            have hix : ipX ((1 : Int), fb) = 0 := by unfold ipX; rw [hpe]; rfl
            rw [hpe] at hp
            rw [hix] at hsn
            have eo : out + ipN (FR.take (j + 1)) = out + ipN (FR.take j) := by rw [hsn]; omega
            conv => whnf
            refine ⟨rfl, ⟨by omega, by omega⟩, fun y hy => ?_⟩
            obtain rfl := Option.some.inj (hfx.symm.trans hy)
            conv => whnf
            (refine CallVC.pure (hp) rfl ?_; rintro _ rfl; conv => whnf)
            refine ⟨rfl, ⟨by omega, by omega⟩, fun y hy => ?_⟩
            obtain rfl := Option.some.inj (hfx.symm.trans hy)
            conv => whnf
            refine ⟨(show (0 : Int) ≤ 1 ∧ (1 : Int) < ((2 : Nat) : Int) by decide), ?_⟩
            conv => whnf
            refine ⟨by kernel_rfl, rfl, ?_⟩
            conv => whnf
            rw [e6, e7, e8, e9, e10, e11]
            rw [show eqD [u8D (z 6 : Int), u8D (z 7 : Int), u8D (z 8 : Int), u8D (z 9 : Int), u8D (z 10 : Int), u8D (z 11 : Int)] [u8D (z 6 : Int), u8D (z 7 : Int), u8D (z 8 : Int), u8D (z 9 : Int), u8D (z 10 : Int), u8D (z 11 : Int)] = true from eq6 _ _ _ _ _ _]
            conv => whnf
            rw [ej, ← eo]
            refine ⟨j + 1, [], [], ?_, q4', by show FR.length - (j + 1) < FR.length - j; omega⟩
            repeat' (first | exact trivial | exact .inl (DLe.refl _) | exact .inl (DLe.nil _ _) | (refine .inr ⟨rfl, _, ?_, rfl⟩; rfl) | exact rfl | exact .inl rfl | exact .inr ⟨rfl, rfl, rfl, rfl⟩ | exact Nat.zero_le _ | constructor)
          · have hpe : parseE fb = (⟨[d0, d1, d2, d3, d4, d5], [z 6, z 7, z 8, z 9, z 10, z 11], 2048, l2⟩, 0) := by rw [he]; exact parse_put _ _ _ _ _ _ _ _ _ _ _ _ _ _ (by decide) (by decide)
            have hix : ipX ((1 : Int), fb) = 1 := by unfold ipX; rw [hpe]; rfl
            rw [hpe] at hp
            rw [hix] at hsn
            have eo : IntKind.i64.wrap (((out + ipN (FR.take j) : Nat) : Int) + 1) = ((out + ipN (FR.take (j + 1)) : Nat) : Int) := by rw [hsn, IntWalk.i64_in _ (by omega)]; omega
            conv => whnf
            refine ⟨rfl, ⟨by omega, by omega⟩, fun y hy => ?_⟩
            obtain rfl := Option.some.inj (hfx.symm.trans hy)
            conv => whnf
            (refine CallVC.pure (hp) rfl ?_; rintro _ rfl; conv => whnf)
            refine ⟨rfl, ⟨by omega, by omega⟩, fun y hy => ?_⟩
            obtain rfl := Option.some.inj (hfx.symm.trans hy)
            conv => whnf
            refine ⟨(show (0 : Int) ≤ 1 ∧ (1 : Int) < ((2 : Nat) : Int) by decide), ?_⟩
            conv => whnf
            refine ⟨by kernel_rfl, rfl, ?_⟩
            conv => whnf
            rw [e6, e7, e8, e9, e10, e11]
            rw [show eqD [u8D (z 6 : Int), u8D (z 7 : Int), u8D (z 8 : Int), u8D (z 9 : Int), u8D (z 10 : Int), u8D (z 11 : Int)] [u8D (z 6 : Int), u8D (z 7 : Int), u8D (z 8 : Int), u8D (z 9 : Int), u8D (z 10 : Int), u8D (z 11 : Int)] = true from eq6 _ _ _ _ _ _]
            have hkd0 : l2 = (ipB (fewP x.p)).1 := hK
            conv => whnf
            rw [eo]
            (refine CallVC.pure (hput) rfl ?_; rintro _ rfl; conv => whnf)
            rw [hkd]
            conv => whnf
            have hsm2 := rSame_fn l2 (ipB (fewP x.p)).1 (by omega)
            rw [decide_eq_true hkd0] at hsm2
            (refine CallVC.pure (hsm2) rfl ?_; rintro _ rfl; conv => whnf)
            rw [hk1]
            conv => whnf
            rw [ej]
            refine ⟨j + 1, [], [], ?_, q4', by show FR.length - (j + 1) < FR.length - j; omega⟩
            repeat' (first | exact trivial | exact .inl (DLe.refl _) | exact .inl (DLe.nil _ _) | (refine .inr ⟨rfl, _, ?_, rfl⟩; rfl) | exact rfl | exact .inl rfl | exact .inr ⟨rfl, rfl, rfl, rfl⟩ | exact Nat.zero_le _ | constructor)
      · have q4' : j = FR.length := by have := of_decide_eq_false q4; omega
        subst q4'
        rw [List.take_length]
        have hsm3 := hI3.sum
        have hfw3 := hI3.few
        have hq3 := hI3.all.q
        have hm3 := hI3.all.m
        have es1 : IntKind.i64.wrap (((out + ipN FR : Nat) : Int) + ((lost : Nat) : Int)) = ((out + ipN FR + lost : Nat) : Int) := by rw [IntWalk.i64_in _ (by omega)]; omega
        have es2 : IntKind.i64.wrap (((out + ipN FR + lost : Nat) : Int) + ((waitsT T' : Nat) : Int)) = (((took + 1) : Nat) : Int) := by rw [IntWalk.i64_in _ (by omega)]; omega
        conv => whnf
        rw [es1]
        refine CallVC.nwaits3 (i := 0) hI3 rfl ?_
        conv => whnf
        rw [es2]
        refine Fork.intro (fun q6 => ?_) (fun q6 => ?_)
        · exact absurd q6 (by simp)
        conv => whnf
        refine CallVC.nwaits3 (i := 0) hI3 rfl ?_
        conv => whnf
        refine Fork.intro (fun q7 => ?_) (fun q7 => ?_)
        · exact absurd (of_decide_eq_true q7) (by omega)
        conv => whnf
        refine CallVC.nlen3 (i := 0) hI3 rfl ?_
        conv => whnf
        refine Fork.intro (fun q8 => ?_) (fun q8 => ?_)
        · exact absurd (of_decide_eq_true q8) (by omega)
        conv => whnf
        rw [ek]
        refine ⟨(k + 1, d', T', S1, (took + 1), out + ipN FR, lost), [], [], ?_, ⟨q2', hI3⟩, by show 60 - (k + 1) < 60 - k; omega⟩
        repeat' (first | exact trivial | exact .inl (DLe.refl _) | exact .inl (DLe.nil _ _) | (refine .inr ⟨rfl, _, ?_, rfl⟩; rfl) | exact rfl | exact .inl rfl | exact .inr ⟨rfl, rfl, rfl, rfl⟩ | exact Nat.zero_le _ | constructor)
    | false =>
      rw [hwhy] at g4
      dsimp only at g4
      have hI3 : PI c cg (k + 1) d' T' took (out + ipN FR) lost := ⟨f1, f2, by rw [f3]; exact ⟨hnow.1, by omega⟩, f4, g1, by omega, by omega⟩
      have hfrl : FR.length ≤ 1000 := by omega
      conv => whnf
      refine ⟨Nat, fun j => ⟨[(17, intD j), (12, .loc 3 0), (11, sentsR FR), (10, .loc 2 0), (9, intD k), (8, intD (lost : Nat)), (7, intD (out + ipN (FR.take j) : Nat)), (6, intD (took : Nat)), (5, netP c cg), (2, .loc 1 0), (1, ndsR l)], [(3, .cells 41 (pktD (fewP x.p))), (2, .cells 45 (ndC x)), (1, .cells 33 (cfgC c)), (0, arL S1 (cacheM d'))], 4, ([], 0)⟩,
        fun j => j ≤ FR.length, fun j => FR.length - j, ⟨0, [], [], ?_, Nat.zero_le _⟩, ?_⟩
      · repeat' (first | exact trivial | exact .inl (DLe.refl _) | exact .inl (DLe.nil _ _) | (refine .inr ⟨rfl, _, ?_, rfl⟩; rfl) | exact rfl | exact .inl rfl | exact .inr ⟨rfl, rfl, rfl, rfl⟩ | exact Nat.zero_le _ | constructor)
      intro j hj
      replace hj : j ≤ FR.length := hj
      have ej : IntKind.i64.wrap ((j : Int) + 1) = ((j + 1 : Nat) : Int) := by rw [IntWalk.i64_in _ (by omega)]; omega
      dsimp only
      conv => whnf
      refine Fork.intro (fun q4 => ?_) (fun q4 => ?_)
      · have q4' : j < FR.length := by have := of_decide_eq_true q4; omega
        obtain ⟨fx, hfx⟩ : ∃ fx, FR[j]? = some fx := ⟨_, List.getElem?_eq_getElem q4'⟩
        obtain ⟨hnc, d0, d1, d2, d3, d4, d5, t, l2, he, hb, hl1, hl2, ht⟩ := g3 fx (List.mem_of_getElem? hfx)
        obtain ⟨fn, fb⟩ := fx
        dsimp only at hnc he hb hl1 ht
        have hib := ipN_le (FR.take j)
        have hit : (FR.take j).length ≤ 1000 := by rw [List.length_take]; omega
        have hsn := ipN_snoc hfx
        rcases hnc with rfl | rfl
        · have hp := rParseE_fn fb hb (by omega)
          have hmz : macZ z 0 = [z 0, z 1, z 2, z 3, z 4, z 5] := rfl
          rw [hmz] at he
          try rw [hmz] at ht
          rcases ht with rfl | ⟨rfl, hK⟩
          · have hpe : parseE fb = (⟨[d0, d1, d2, d3, d4, d5], [z 0, z 1, z 2, z 3, z 4, z 5], 2054, l2⟩, 0) := by rw [he]; exact parse_put _ _ _ _ _ _ _ _ _ _ _ _ _ _ (by decide) (by decide)
            have hix : ipX ((0 : Int), fb) = 0 := by unfold ipX; rw [hpe]; rfl
            rw [hpe] at hp
            rw [hix] at hsn
            have eo : out + ipN (FR.take (j + 1)) = out + ipN (FR.take j) := by rw [hsn]; omega
            conv => whnf
            refine ⟨rfl, ⟨by omega, by omega⟩, fun y hy => ?_⟩
            obtain rfl := Option.some.inj (hfx.symm.trans hy)
            conv => whnf
            (refine CallVC.pure (hp) rfl ?_; rintro _ rfl; conv => whnf)
            refine ⟨rfl, ⟨by omega, by omega⟩, fun y hy => ?_⟩
            obtain rfl := Option.some.inj (hfx.symm.trans hy)
            conv => whnf
            refine ⟨(show (0 : Int) ≤ 0 ∧ (0 : Int) < ((2 : Nat) : Int) by decide), ?_⟩
            conv => whnf
            refine ⟨by kernel_rfl, rfl, ?_⟩
            conv => whnf
            rw [e0, e1, e2, e3, e4, e5]
            rw [show eqD [u8D (z 0 : Int), u8D (z 1 : Int), u8D (z 2 : Int), u8D (z 3 : Int), u8D (z 4 : Int), u8D (z 5 : Int)] [u8D (z 0 : Int), u8D (z 1 : Int), u8D (z 2 : Int), u8D (z 3 : Int), u8D (z 4 : Int), u8D (z 5 : Int)] = true from eq6 _ _ _ _ _ _]
            conv => whnf
            rw [ej, ← eo]
            refine ⟨j + 1, [], [], ?_, q4', by show FR.length - (j + 1) < FR.length - j; omega⟩
            repeat' (first | exact trivial | exact .inl (DLe.refl _) | exact .inl (DLe.nil _ _) | (refine .inr ⟨rfl, _, ?_, rfl⟩; rfl) | exact rfl | exact .inl rfl | exact .inr ⟨rfl, rfl, rfl, rfl⟩ | exact Nat.zero_le _ | constructor)
          · have hpe : parseE fb = (⟨[d0, d1, d2, d3, d4, d5], [z 0, z 1, z 2, z 3, z 4, z 5], 2048, l2⟩, 0) := by rw [he]; exact parse_put _ _ _ _ _ _ _ _ _ _ _ _ _ _ (by decide) (by decide)
            have hix : ipX ((0 : Int), fb) = 1 := by unfold ipX; rw [hpe]; rfl
            rw [hpe] at hp
            rw [hix] at hsn
            have eo : IntKind.i64.wrap (((out + ipN (FR.take j) : Nat) : Int) + 1) = ((out + ipN (FR.take (j + 1)) : Nat) : Int) := by rw [hsn, IntWalk.i64_in _ (by omega)]; omega
            conv => whnf
            refine ⟨rfl, ⟨by omega, by omega⟩, fun y hy => ?_⟩
            obtain rfl := Option.some.inj (hfx.symm.trans hy)
            conv => whnf
            (refine CallVC.pure (hp) rfl ?_; rintro _ rfl; conv => whnf)
            refine ⟨rfl, ⟨by omega, by omega⟩, fun y hy => ?_⟩
            obtain rfl := Option.some.inj (hfx.symm.trans hy)
            conv => whnf
            refine ⟨(show (0 : Int) ≤ 0 ∧ (0 : Int) < ((2 : Nat) : Int) by decide), ?_⟩
            conv => whnf
            refine ⟨by kernel_rfl, rfl, ?_⟩
            conv => whnf
            rw [e0, e1, e2, e3, e4, e5]
            rw [show eqD [u8D (z 0 : Int), u8D (z 1 : Int), u8D (z 2 : Int), u8D (z 3 : Int), u8D (z 4 : Int), u8D (z 5 : Int)] [u8D (z 0 : Int), u8D (z 1 : Int), u8D (z 2 : Int), u8D (z 3 : Int), u8D (z 4 : Int), u8D (z 5 : Int)] = true from eq6 _ _ _ _ _ _]
            have hkd0 : l2 = (ipB (fewP x.p)).1 := hK
            conv => whnf
            rw [eo]
            (refine CallVC.pure (hput) rfl ?_; rintro _ rfl; conv => whnf)
            rw [hkd]
            conv => whnf
            have hsm2 := rSame_fn l2 (ipB (fewP x.p)).1 (by omega)
            rw [decide_eq_true hkd0] at hsm2
            (refine CallVC.pure (hsm2) rfl ?_; rintro _ rfl; conv => whnf)
            rw [hk1]
            conv => whnf
            rw [ej]
            refine ⟨j + 1, [], [], ?_, q4', by show FR.length - (j + 1) < FR.length - j; omega⟩
            repeat' (first | exact trivial | exact .inl (DLe.refl _) | exact .inl (DLe.nil _ _) | (refine .inr ⟨rfl, _, ?_, rfl⟩; rfl) | exact rfl | exact .inl rfl | exact .inr ⟨rfl, rfl, rfl, rfl⟩ | exact Nat.zero_le _ | constructor)
        · have hp := rParseE_fn fb hb (by omega)
          have hmz : macZ z 1 = [z 6, z 7, z 8, z 9, z 10, z 11] := rfl
          rw [hmz] at he
          try rw [hmz] at ht
          rcases ht with rfl | ⟨rfl, hK⟩
          · have hpe : parseE fb = (⟨[d0, d1, d2, d3, d4, d5], [z 6, z 7, z 8, z 9, z 10, z 11], 2054, l2⟩, 0) := by rw [he]; exact parse_put _ _ _ _ _ _ _ _ _ _ _ _ _ _ (by decide) (by decide)
            have hix : ipX ((1 : Int), fb) = 0 := by unfold ipX; rw [hpe]; rfl
            rw [hpe] at hp
            rw [hix] at hsn
            have eo : out + ipN (FR.take (j + 1)) = out + ipN (FR.take j) := by rw [hsn]; omega
            conv => whnf
            refine ⟨rfl, ⟨by omega, by omega⟩, fun y hy => ?_⟩
            obtain rfl := Option.some.inj (hfx.symm.trans hy)
            conv => whnf
            (refine CallVC.pure (hp) rfl ?_; rintro _ rfl; conv => whnf)
            refine ⟨rfl, ⟨by omega, by omega⟩, fun y hy => ?_⟩
            obtain rfl := Option.some.inj (hfx.symm.trans hy)
            conv => whnf
            refine ⟨(show (0 : Int) ≤ 1 ∧ (1 : Int) < ((2 : Nat) : Int) by decide), ?_⟩
            conv => whnf
            refine ⟨by kernel_rfl, rfl, ?_⟩
            conv => whnf
            rw [e6, e7, e8, e9, e10, e11]
            rw [show eqD [u8D (z 6 : Int), u8D (z 7 : Int), u8D (z 8 : Int), u8D (z 9 : Int), u8D (z 10 : Int), u8D (z 11 : Int)] [u8D (z 6 : Int), u8D (z 7 : Int), u8D (z 8 : Int), u8D (z 9 : Int), u8D (z 10 : Int), u8D (z 11 : Int)] = true from eq6 _ _ _ _ _ _]
            conv => whnf
            rw [ej, ← eo]
            refine ⟨j + 1, [], [], ?_, q4', by show FR.length - (j + 1) < FR.length - j; omega⟩
            repeat' (first | exact trivial | exact .inl (DLe.refl _) | exact .inl (DLe.nil _ _) | (refine .inr ⟨rfl, _, ?_, rfl⟩; rfl) | exact rfl | exact .inl rfl | exact .inr ⟨rfl, rfl, rfl, rfl⟩ | exact Nat.zero_le _ | constructor)
          · have hpe : parseE fb = (⟨[d0, d1, d2, d3, d4, d5], [z 6, z 7, z 8, z 9, z 10, z 11], 2048, l2⟩, 0) := by rw [he]; exact parse_put _ _ _ _ _ _ _ _ _ _ _ _ _ _ (by decide) (by decide)
            have hix : ipX ((1 : Int), fb) = 1 := by unfold ipX; rw [hpe]; rfl
            rw [hpe] at hp
            rw [hix] at hsn
            have eo : IntKind.i64.wrap (((out + ipN (FR.take j) : Nat) : Int) + 1) = ((out + ipN (FR.take (j + 1)) : Nat) : Int) := by rw [hsn, IntWalk.i64_in _ (by omega)]; omega
            conv => whnf
            refine ⟨rfl, ⟨by omega, by omega⟩, fun y hy => ?_⟩
            obtain rfl := Option.some.inj (hfx.symm.trans hy)
            conv => whnf
            (refine CallVC.pure (hp) rfl ?_; rintro _ rfl; conv => whnf)
            refine ⟨rfl, ⟨by omega, by omega⟩, fun y hy => ?_⟩
            obtain rfl := Option.some.inj (hfx.symm.trans hy)
            conv => whnf
            refine ⟨(show (0 : Int) ≤ 1 ∧ (1 : Int) < ((2 : Nat) : Int) by decide), ?_⟩
            conv => whnf
            refine ⟨by kernel_rfl, rfl, ?_⟩
            conv => whnf
            rw [e6, e7, e8, e9, e10, e11]
            rw [show eqD [u8D (z 6 : Int), u8D (z 7 : Int), u8D (z 8 : Int), u8D (z 9 : Int), u8D (z 10 : Int), u8D (z 11 : Int)] [u8D (z 6 : Int), u8D (z 7 : Int), u8D (z 8 : Int), u8D (z 9 : Int), u8D (z 10 : Int), u8D (z 11 : Int)] = true from eq6 _ _ _ _ _ _]
            have hkd0 : l2 = (ipB (fewP x.p)).1 := hK
            conv => whnf
            rw [eo]
            (refine CallVC.pure (hput) rfl ?_; rintro _ rfl; conv => whnf)
            rw [hkd]
            conv => whnf
            have hsm2 := rSame_fn l2 (ipB (fewP x.p)).1 (by omega)
            rw [decide_eq_true hkd0] at hsm2
            (refine CallVC.pure (hsm2) rfl ?_; rintro _ rfl; conv => whnf)
            rw [hk1]
            conv => whnf
            rw [ej]
            refine ⟨j + 1, [], [], ?_, q4', by show FR.length - (j + 1) < FR.length - j; omega⟩
            repeat' (first | exact trivial | exact .inl (DLe.refl _) | exact .inl (DLe.nil _ _) | (refine .inr ⟨rfl, _, ?_, rfl⟩; rfl) | exact rfl | exact .inl rfl | exact .inr ⟨rfl, rfl, rfl, rfl⟩ | exact Nat.zero_le _ | constructor)
      · have q4' : j = FR.length := by have := of_decide_eq_false q4; omega
        subst q4'
        rw [List.take_length]
        have hsm3 := hI3.sum
        have hfw3 := hI3.few
        have hq3 := hI3.all.q
        have hm3 := hI3.all.m
        have es1 : IntKind.i64.wrap (((out + ipN FR : Nat) : Int) + ((lost : Nat) : Int)) = ((out + ipN FR + lost : Nat) : Int) := by rw [IntWalk.i64_in _ (by omega)]; omega
        have es2 : IntKind.i64.wrap (((out + ipN FR + lost : Nat) : Int) + ((waitsT T' : Nat) : Int)) = ((took : Nat) : Int) := by rw [IntWalk.i64_in _ (by omega)]; omega
        conv => whnf
        rw [es1]
        refine CallVC.nwaits3 (i := 0) hI3 rfl ?_
        conv => whnf
        rw [es2]
        refine Fork.intro (fun q6 => ?_) (fun q6 => ?_)
        · exact absurd q6 (by simp)
        conv => whnf
        refine CallVC.nwaits3 (i := 0) hI3 rfl ?_
        conv => whnf
        refine Fork.intro (fun q7 => ?_) (fun q7 => ?_)
        · exact absurd (of_decide_eq_true q7) (by omega)
        conv => whnf
        refine CallVC.nlen3 (i := 0) hI3 rfl ?_
        conv => whnf
        refine Fork.intro (fun q8 => ?_) (fun q8 => ?_)
        · exact absurd (of_decide_eq_true q8) (by omega)
        conv => whnf
        rw [ek]
        refine ⟨(k + 1, d', T', S1, took, out + ipN FR, lost), [], [], ?_, ⟨q2', hI3⟩, by show 60 - (k + 1) < 60 - k; omega⟩
        repeat' (first | exact trivial | exact .inl (DLe.refl _) | exact .inl (DLe.nil _ _) | (refine .inr ⟨rfl, _, ?_, rfl⟩; rfl) | exact rfl | exact .inl rfl | exact .inr ⟨rfl, rfl, rfl, rfl⟩ | exact Nat.zero_le _ | constructor)
  | false =>
    conv => whnf
    cases hk1 : decide (x.kind = 1) with
    | true =>
      have hheard := heard_ar z d T x.nic x.op x.sip x.dip x.x0 x.x1 x.x2 x.x3 x.x4 x.x5 x.y0 x.y1 x.y2 x.y3 x.y4 x.y5 (by rw [hI.hcc]; exact hw) (by rw [hI.hcc]; exact hz) hI.st (by omega) (by omega) (fun y hy b hb => ((hI.all.one y hy).ws b hb).1) hxo.op hxo.sip hxo.dip
      rw [hI.hcg, hI.hcc] at hheard
      obtain ⟨g1, g2, g3, g4⟩ := heard_plain (c := c) (z := z) (nic := x.nic) (op := x.op) (sip := x.sip) (dip := x.dip) (d0 := x.x0) (d1 := x.x1) (d2 := x.x2) (d3 := x.x3) (d4 := x.x4) (d5 := x.x5) (y0 := x.y0) (y1 := x.y1) (y2 := x.y2) (y3 := x.y3) (y4 := x.y4) (y5 := x.y5) hzb hnow.1 hI.st.sort hI.all hxb
      generalize heardT c z d.now T x.nic ⟨x.op, [x.x0, x.x1, x.x2, x.x3, x.x4, x.x5], x.sip, [x.y0, x.y1, x.y2, x.y3, x.y4, x.y5], x.dip⟩ = W at hheard g1 g2 g3 g4
      obtain ⟨FR, T'⟩ := W
      dsimp only at hheard g1 g2 g3 g4
      conv => whnf
      refine CallVC.ar (i := 0) hheard rfl rfl ?_
      rintro _ _ S1 ⟨rfl, d', rfl, f1, f2, f3, f4⟩
      clear hheard
      rw [← f3] at g1
      have hI3 : PI c cg (k + 1) d' T' took (out + ipN FR) lost := ⟨f1, f2, by rw [f3]; exact ⟨hnow.1, by omega⟩, f4, g1, by omega, by omega⟩
      have hfrl : FR.length ≤ 1000 := by omega
      conv => whnf
      refine ⟨Nat, fun j => ⟨[(17, intD j), (12, .loc 3 0), (11, sentsR FR), (10, .loc 2 0), (9, intD k), (8, intD (lost : Nat)), (7, intD (out + ipN (FR.take j) : Nat)), (6, intD (took : Nat)), (5, netP c cg), (2, .loc 1 0), (1, ndsR l)], [(3, .cells 41 (pktD (fewP x.p))), (2, .cells 45 (ndC x)), (1, .cells 33 (cfgC c)), (0, arL S1 (cacheM d'))], 4, ([], 0)⟩,
        fun j => j ≤ FR.length, fun j => FR.length - j, ⟨0, [], [], ?_, Nat.zero_le _⟩, ?_⟩
      · repeat' (first | exact trivial | exact .inl (DLe.refl _) | exact .inl (DLe.nil _ _) | (refine .inr ⟨rfl, _, ?_, rfl⟩; rfl) | exact rfl | exact .inl rfl | exact .inr ⟨rfl, rfl, rfl, rfl⟩ | exact Nat.zero_le _ | constructor)
      intro j hj
      replace hj : j ≤ FR.length := hj
      have ej : IntKind.i64.wrap ((j : Int) + 1) = ((j + 1 : Nat) : Int) := by rw [IntWalk.i64_in _ (by omega)]; omega
      dsimp only
      conv => whnf
      refine Fork.intro (fun q4 => ?_) (fun q4 => ?_)
      · have q4' : j < FR.length := by have := of_decide_eq_true q4; omega
        obtain ⟨fx, hfx⟩ : ∃ fx, FR[j]? = some fx := ⟨_, List.getElem?_eq_getElem q4'⟩
        obtain ⟨hnc, d0, d1, d2, d3, d4, d5, t, l2, he, hb, hl1, hl2, ht⟩ := g3 fx (List.mem_of_getElem? hfx)
        obtain ⟨fn, fb⟩ := fx
        dsimp only at hnc he hb hl1 ht
        have hib := ipN_le (FR.take j)
        have hit : (FR.take j).length ≤ 1000 := by rw [List.length_take]; omega
        have hsn := ipN_snoc hfx
        rcases hnc with rfl | rfl
        · have hp := rParseE_fn fb hb (by omega)
          have hmz : macZ z 0 = [z 0, z 1, z 2, z 3, z 4, z 5] := rfl
          rw [hmz] at he
          try rw [hmz] at ht
          rcases ht with rfl | ⟨rfl, hK⟩
          · have hpe : parseE fb = (⟨[d0, d1, d2, d3, d4, d5], [z 0, z 1, z 2, z 3, z 4, z 5], 2054, l2⟩, 0) := by rw [he]; exact parse_put _ _ _ _ _ _ _ _ _ _ _ _ _ _ (by decide) (by decide)
            have hix : ipX ((0 : Int), fb) = 0 := by unfold ipX; rw [hpe]; rfl
            rw [hpe] at hp
            rw [hix] at hsn
            have eo : out + ipN (FR.take (j + 1)) = out + ipN (FR.take j) := by rw [hsn]; omega
            conv => whnf
            refine ⟨rfl, ⟨by omega, by omega⟩, fun y hy => ?_⟩
            obtain rfl := Option.some.inj (hfx.symm.trans hy)
            conv => whnf
            (refine CallVC.pure (hp) rfl ?_; rintro _ rfl; conv => whnf)
            refine ⟨rfl, ⟨by omega, by omega⟩, fun y hy => ?_⟩
            obtain rfl := Option.some.inj (hfx.symm.trans hy)
            conv => whnf
            refine ⟨(show (0 : Int) ≤ 0 ∧ (0 : Int) < ((2 : Nat) : Int) by decide), ?_⟩
            conv => whnf
            refine ⟨by kernel_rfl, rfl, ?_⟩
            conv => whnf
            rw [e0, e1, e2, e3, e4, e5]
            rw [show eqD [u8D (z 0 : Int), u8D (z 1 : Int), u8D (z 2 : Int), u8D (z 3 : Int), u8D (z 4 : Int), u8D (z 5 : Int)] [u8D (z 0 : Int), u8D (z 1 : Int), u8D (z 2 : Int), u8D (z 3 : Int), u8D (z 4 : Int), u8D (z 5 : Int)] = true from eq6 _ _ _ _ _ _]
            conv => whnf
            rw [ej, ← eo]
            refine ⟨j + 1, [], [], ?_, q4', by show FR.length - (j + 1) < FR.length - j; omega⟩
            repeat' (first | exact trivial | exact .inl (DLe.refl _) | exact .inl (DLe.nil _ _) | (refine .inr ⟨rfl, _, ?_, rfl⟩; rfl) | exact rfl | exact .inl rfl | exact .inr ⟨rfl, rfl, rfl, rfl⟩ | exact Nat.zero_le _ | constructor)
          · have hpe : parseE fb = (⟨[d0, d1, d2, d3, d4, d5], [z 0, z 1, z 2, z 3, z 4, z 5], 2048, l2⟩, 0) := by rw [he]; exact parse_put _ _ _ _ _ _ _ _ _ _ _ _ _ _ (by decide) (by decide)
            have hix : ipX ((0 : Int), fb) = 1 := by unfold ipX; rw [hpe]; rfl
            rw [hpe] at hp
            rw [hix] at hsn
            have eo : IntKind.i64.wrap (((out + ipN (FR.take j) : Nat) : Int) + 1) = ((out + ipN (FR.take (j + 1)) : Nat) : Int) := by rw [hsn, IntWalk.i64_in _ (by omega)]; omega
            conv => whnf
            refine ⟨rfl, ⟨by omega, by omega⟩, fun y hy => ?_⟩
            obtain rfl := Option.some.inj (hfx.symm.trans hy)
            conv => whnf
            (refine CallVC.pure (hp) rfl ?_; rintro _ rfl; conv => whnf)
            refine ⟨rfl, ⟨by omega, by omega⟩, fun y hy => ?_⟩
            obtain rfl := Option.some.inj (hfx.symm.trans hy)
            conv => whnf
            refine ⟨(show (0 : Int) ≤ 0 ∧ (0 : Int) < ((2 : Nat) : Int) by decide), ?_⟩
            conv => whnf
            refine ⟨by kernel_rfl, rfl, ?_⟩
            conv => whnf
            rw [e0, e1, e2, e3, e4, e5]
            rw [show eqD [u8D (z 0 : Int), u8D (z 1 : Int), u8D (z 2 : Int), u8D (z 3 : Int), u8D (z 4 : Int), u8D (z 5 : Int)] [u8D (z 0 : Int), u8D (z 1 : Int), u8D (z 2 : Int), u8D (z 3 : Int), u8D (z 4 : Int), u8D (z 5 : Int)] = true from eq6 _ _ _ _ _ _]
            have hdd : [d0, d1, d2, d3, d4, d5] = [x.x0, x.x1, x.x2, x.x3, x.x4, x.x5] := hK
            simp only [List.cons.injEq, and_true] at hdd
            obtain ⟨rfl, rfl, rfl, rfl, rfl, rfl⟩ := hdd
            conv => whnf
            rw [eo]
            (refine CallVC.pure (hput) rfl ?_; rintro _ rfl; conv => whnf)
            rw [hkd]
            conv => whnf
            rw [hk1]
            conv => whnf
            refine ⟨by kernel_rfl, rfl, ?_⟩
            conv => whnf
            rw [show eqD [u8D (x.x0 : Int), u8D (x.x1 : Int), u8D (x.x2 : Int), u8D (x.x3 : Int), u8D (x.x4 : Int), u8D (x.x5 : Int)] [u8D (x.x0 : Int), u8D (x.x1 : Int), u8D (x.x2 : Int), u8D (x.x3 : Int), u8D (x.x4 : Int), u8D (x.x5 : Int)] = true from eq6 _ _ _ _ _ _]
            conv => whnf
            rw [ej]
            refine ⟨j + 1, [], [], ?_, q4', by show FR.length - (j + 1) < FR.length - j; omega⟩
            repeat' (first | exact trivial | exact .inl (DLe.refl _) | exact .inl (DLe.nil _ _) | (refine .inr ⟨rfl, _, ?_, rfl⟩; rfl) | exact rfl | exact .inl rfl | exact .inr ⟨rfl, rfl, rfl, rfl⟩ | exact Nat.zero_le _ | constructor)
        · have hp := rParseE_fn fb hb (by omega)
          have hmz : macZ z 1 = [z 6, z 7, z 8, z 9, z 10, z 11] := rfl
          rw [hmz] at he
          try rw [hmz] at ht
          rcases ht with rfl | ⟨rfl, hK⟩
          · have hpe : parseE fb = (⟨[d0, d1, d2, d3, d4, d5], [z 6, z 7, z 8, z 9, z 10, z 11], 2054, l2⟩, 0) := by rw [he]; exact parse_put _ _ _ _ _ _ _ _ _ _ _ _ _ _ (by decide) (by decide)
            have hix : ipX ((1 : Int), fb) = 0 := by unfold ipX; rw [hpe]; rfl
            rw [hpe] at hp
            rw [hix] at hsn
            have eo : out + ipN (FR.take (j + 1)) = out + ipN (FR.take j) := by rw [hsn]; omega
            conv => whnf
            refine ⟨rfl, ⟨by omega, by omega⟩, fun y hy => ?_⟩
            obtain rfl := Option.some.inj (hfx.symm.trans hy)
            conv => whnf
            (refine CallVC.pure (hp) rfl ?_; rintro _ rfl; conv => whnf)
            refine ⟨rfl, ⟨by omega, by omega⟩, fun y hy => ?_⟩
            obtain rfl := Option.some.inj (hfx.symm.trans hy)
            conv => whnf
            refine ⟨(show (0 : Int) ≤ 1 ∧ (1 : Int) < ((2 : Nat) : Int) by decide), ?_⟩
            conv => whnf
            refine ⟨by kernel_rfl, rfl, ?_⟩
            conv => whnf
            rw [e6, e7, e8, e9, e10, e11]
            rw [show eqD [u8D (z 6 : Int), u8D (z 7 : Int), u8D (z 8 : Int), u8D (z 9 : Int), u8D (z 10 : Int), u8D (z 11 : Int)] [u8D (z 6 : Int), u8D (z 7 : Int), u8D (z 8 : Int), u8D (z 9 : Int), u8D (z 10 : Int), u8D (z 11 : Int)] = true from eq6 _ _ _ _ _ _]
            conv => whnf
            rw [ej, ← eo]
            refine ⟨j + 1, [], [], ?_, q4', by show FR.length - (j + 1) < FR.length - j; omega⟩
            repeat' (first | exact trivial | exact .inl (DLe.refl _) | exact .inl (DLe.nil _ _) | (refine .inr ⟨rfl, _, ?_, rfl⟩; rfl) | exact rfl | exact .inl rfl | exact .inr ⟨rfl, rfl, rfl, rfl⟩ | exact Nat.zero_le _ | constructor)
          · have hpe : parseE fb = (⟨[d0, d1, d2, d3, d4, d5], [z 6, z 7, z 8, z 9, z 10, z 11], 2048, l2⟩, 0) := by rw [he]; exact parse_put _ _ _ _ _ _ _ _ _ _ _ _ _ _ (by decide) (by decide)
            have hix : ipX ((1 : Int), fb) = 1 := by unfold ipX; rw [hpe]; rfl
            rw [hpe] at hp
            rw [hix] at hsn
            have eo : IntKind.i64.wrap (((out + ipN (FR.take j) : Nat) : Int) + 1) = ((out + ipN (FR.take (j + 1)) : Nat) : Int) := by rw [hsn, IntWalk.i64_in _ (by omega)]; omega
            conv => whnf
            refine ⟨rfl, ⟨by omega, by omega⟩, fun y hy => ?_⟩
            obtain rfl := Option.some.inj (hfx.symm.trans hy)
            conv => whnf
            (refine CallVC.pure (hp) rfl ?_; rintro _ rfl; conv => whnf)
            refine ⟨rfl, ⟨by omega, by omega⟩, fun y hy => ?_⟩
            obtain rfl := Option.some.inj (hfx.symm.trans hy)
            conv => whnf
            refine ⟨(show (0 : Int) ≤ 1 ∧ (1 : Int) < ((2 : Nat) : Int) by decide), ?_⟩
            conv => whnf
            refine ⟨by kernel_rfl, rfl, ?_⟩
            conv => whnf
            rw [e6, e7, e8, e9, e10, e11]
            rw [show eqD [u8D (z 6 : Int), u8D (z 7 : Int), u8D (z 8 : Int), u8D (z 9 : Int), u8D (z 10 : Int), u8D (z 11 : Int)] [u8D (z 6 : Int), u8D (z 7 : Int), u8D (z 8 : Int), u8D (z 9 : Int), u8D (z 10 : Int), u8D (z 11 : Int)] = true from eq6 _ _ _ _ _ _]
            have hdd : [d0, d1, d2, d3, d4, d5] = [x.x0, x.x1, x.x2, x.x3, x.x4, x.x5] := hK
            simp only [List.cons.injEq, and_true] at hdd
            obtain ⟨rfl, rfl, rfl, rfl, rfl, rfl⟩ := hdd
            conv => whnf
            rw [eo]
            (refine CallVC.pure (hput) rfl ?_; rintro _ rfl; conv => whnf)
            rw [hkd]
            conv => whnf
            rw [hk1]
            conv => whnf
            refine ⟨by kernel_rfl, rfl, ?_⟩
            conv => whnf
            rw [show eqD [u8D (x.x0 : Int), u8D (x.x1 : Int), u8D (x.x2 : Int), u8D (x.x3 : Int), u8D (x.x4 : Int), u8D (x.x5 : Int)] [u8D (x.x0 : Int), u8D (x.x1 : Int), u8D (x.x2 : Int), u8D (x.x3 : Int), u8D (x.x4 : Int), u8D (x.x5 : Int)] = true from eq6 _ _ _ _ _ _]
            conv => whnf
            rw [ej]
            refine ⟨j + 1, [], [], ?_, q4', by show FR.length - (j + 1) < FR.length - j; omega⟩
            repeat' (first | exact trivial | exact .inl (DLe.refl _) | exact .inl (DLe.nil _ _) | (refine .inr ⟨rfl, _, ?_, rfl⟩; rfl) | exact rfl | exact .inl rfl | exact .inr ⟨rfl, rfl, rfl, rfl⟩ | exact Nat.zero_le _ | constructor)
      · have q4' : j = FR.length := by have := of_decide_eq_false q4; omega
        subst q4'
        rw [List.take_length]
        have hsm3 := hI3.sum
        have hfw3 := hI3.few
        have hq3 := hI3.all.q
        have hm3 := hI3.all.m
        have es1 : IntKind.i64.wrap (((out + ipN FR : Nat) : Int) + ((lost : Nat) : Int)) = ((out + ipN FR + lost : Nat) : Int) := by rw [IntWalk.i64_in _ (by omega)]; omega
        have es2 : IntKind.i64.wrap (((out + ipN FR + lost : Nat) : Int) + ((waitsT T' : Nat) : Int)) = ((took : Nat) : Int) := by rw [IntWalk.i64_in _ (by omega)]; omega
        conv => whnf
        rw [es1]
        refine CallVC.nwaits3 (i := 0) hI3 rfl ?_
        conv => whnf
        rw [es2]
        refine Fork.intro (fun q6 => ?_) (fun q6 => ?_)
        · exact absurd q6 (by simp)
        conv => whnf
        refine CallVC.nwaits3 (i := 0) hI3 rfl ?_
        conv => whnf
        refine Fork.intro (fun q7 => ?_) (fun q7 => ?_)
        · exact absurd (of_decide_eq_true q7) (by omega)
        conv => whnf
        refine CallVC.nlen3 (i := 0) hI3 rfl ?_
        conv => whnf
        refine Fork.intro (fun q8 => ?_) (fun q8 => ?_)
        · exact absurd (of_decide_eq_true q8) (by omega)
        conv => whnf
        rw [ek]
        refine ⟨(k + 1, d', T', S1, took, out + ipN FR, lost), [], [], ?_, ⟨q2', hI3⟩, by show 60 - (k + 1) < 60 - k; omega⟩
        repeat' (first | exact trivial | exact .inl (DLe.refl _) | exact .inl (DLe.nil _ _) | (refine .inr ⟨rfl, _, ?_, rfl⟩; rfl) | exact rfl | exact .inl rfl | exact .inr ⟨rfl, rfl, rfl, rfl⟩ | exact Nat.zero_le _ | constructor)
    | false =>
      have htick := stick_ar z d T (by rw [hI.hcc]; exact hw) (by rw [hI.hcc]; exact hz) hI.st hI.all.ok (by omega) (by omega) (by omega) (fun y hy => (hI.all.one y hy).nic)
      rw [hI.hcg, hI.hcc] at htick
      obtain ⟨g1, g2, g3, g4, g5⟩ := tick_plain (c := c) (z := z) hzb hnow.1 hI.all
      have hlt : (tickS c z d.now T).2 = ((lostT c (d.now + 1) T : Nat) : Int) := rfl
      rw [hlt] at htick
      generalize lostT c (d.now + 1) T = lo at htick g5
      generalize (tickS c z d.now T).1 = FR at htick g2 g3 g4
      generalize tickT c (d.now + 1) T = T' at htick g1 g5
      conv => whnf
      refine CallVC.ar (i := 0) htick rfl rfl ?_
      rintro _ _ S1 ⟨rfl, d', rfl, f1, f2, f3, f4⟩
      clear htick
      rw [← f3] at g1
      have el : IntKind.i64.wrap ((lost : Int) + (lo : Int)) = ((lost + lo : Nat) : Int) := by rw [IntWalk.i64_in _ (by omega)]; omega
      have hI3 : PI c cg (k + 1) d' T' took (out + ipN FR) (lost + lo) := ⟨f1, f2, by rw [f3]; exact ⟨by omega, by omega⟩, f4, g1, by omega, by omega⟩
      have hfrl : FR.length ≤ 1000 := by omega
      conv => whnf
      rw [el]
      refine ⟨Nat, fun j => ⟨[(17, intD j), (12, .loc 3 0), (11, sentsR FR), (10, .loc 2 0), (9, intD k), (8, intD ((lost + lo) : Nat)), (7, intD (out + ipN (FR.take j) : Nat)), (6, intD (took : Nat)), (5, netP c cg), (2, .loc 1 0), (1, ndsR l)], [(3, .cells 41 (pktD (fewP x.p))), (2, .cells 45 (ndC x)), (1, .cells 33 (cfgC c)), (0, arL S1 (cacheM d'))], 4, ([], 0)⟩,
        fun j => j ≤ FR.length, fun j => FR.length - j, ⟨0, [], [], ?_, Nat.zero_le _⟩, ?_⟩
      · repeat' (first | exact trivial | exact .inl (DLe.refl _) | exact .inl (DLe.nil _ _) | (refine .inr ⟨rfl, _, ?_, rfl⟩; rfl) | exact rfl | exact .inl rfl | exact .inr ⟨rfl, rfl, rfl, rfl⟩ | exact Nat.zero_le _ | constructor)
      intro j hj
      replace hj : j ≤ FR.length := hj
      have ej : IntKind.i64.wrap ((j : Int) + 1) = ((j + 1 : Nat) : Int) := by rw [IntWalk.i64_in _ (by omega)]; omega
      dsimp only
      conv => whnf
      refine Fork.intro (fun q4 => ?_) (fun q4 => ?_)
      · have q4' : j < FR.length := by have := of_decide_eq_true q4; omega
        obtain ⟨fx, hfx⟩ : ∃ fx, FR[j]? = some fx := ⟨_, List.getElem?_eq_getElem q4'⟩
        obtain ⟨hnc, d0, d1, d2, d3, d4, d5, t, l2, he, hb, hl1, hl2, ht⟩ := g3 fx (List.mem_of_getElem? hfx)
        obtain ⟨fn, fb⟩ := fx
        dsimp only at hnc he hb hl1 ht
        have hib := ipN_le (FR.take j)
        have hit : (FR.take j).length ≤ 1000 := by rw [List.length_take]; omega
        have hsn := ipN_snoc hfx
        rcases hnc with rfl | rfl
        · have hp := rParseE_fn fb hb (by omega)
          have hmz : macZ z 0 = [z 0, z 1, z 2, z 3, z 4, z 5] := rfl
          rw [hmz] at he
          try rw [hmz] at ht
          rcases ht with rfl | ⟨rfl, hK⟩
          · have hpe : parseE fb = (⟨[d0, d1, d2, d3, d4, d5], [z 0, z 1, z 2, z 3, z 4, z 5], 2054, l2⟩, 0) := by rw [he]; exact parse_put _ _ _ _ _ _ _ _ _ _ _ _ _ _ (by decide) (by decide)
            have hix : ipX ((0 : Int), fb) = 0 := by unfold ipX; rw [hpe]; rfl
            rw [hpe] at hp
            rw [hix] at hsn
            have eo : out + ipN (FR.take (j + 1)) = out + ipN (FR.take j) := by rw [hsn]; omega
            conv => whnf
            refine ⟨rfl, ⟨by omega, by omega⟩, fun y hy => ?_⟩
            obtain rfl := Option.some.inj (hfx.symm.trans hy)
            conv => whnf
            (refine CallVC.pure (hp) rfl ?_; rintro _ rfl; conv => whnf)
            refine ⟨rfl, ⟨by omega, by omega⟩, fun y hy => ?_⟩
            obtain rfl := Option.some.inj (hfx.symm.trans hy)
            conv => whnf
            refine ⟨(show (0 : Int) ≤ 0 ∧ (0 : Int) < ((2 : Nat) : Int) by decide), ?_⟩
            conv => whnf
            refine ⟨by kernel_rfl, rfl, ?_⟩
            conv => whnf
            rw [e0, e1, e2, e3, e4, e5]
            rw [show eqD [u8D (z 0 : Int), u8D (z 1 : Int), u8D (z 2 : Int), u8D (z 3 : Int), u8D (z 4 : Int), u8D (z 5 : Int)] [u8D (z 0 : Int), u8D (z 1 : Int), u8D (z 2 : Int), u8D (z 3 : Int), u8D (z 4 : Int), u8D (z 5 : Int)] = true from eq6 _ _ _ _ _ _]
            conv => whnf
            rw [ej, ← eo]
            refine ⟨j + 1, [], [], ?_, q4', by show FR.length - (j + 1) < FR.length - j; omega⟩
            repeat' (first | exact trivial | exact .inl (DLe.refl _) | exact .inl (DLe.nil _ _) | (refine .inr ⟨rfl, _, ?_, rfl⟩; rfl) | exact rfl | exact .inl rfl | exact .inr ⟨rfl, rfl, rfl, rfl⟩ | exact Nat.zero_le _ | constructor)
          · have hpe : parseE fb = (⟨[d0, d1, d2, d3, d4, d5], [z 0, z 1, z 2, z 3, z 4, z 5], 2048, l2⟩, 0) := by rw [he]; exact parse_put _ _ _ _ _ _ _ _ _ _ _ _ _ _ (by decide) (by decide)
            have hix : ipX ((0 : Int), fb) = 1 := by unfold ipX; rw [hpe]; rfl
            rw [hpe] at hp
            rw [hix] at hsn
            have eo : IntKind.i64.wrap (((out + ipN (FR.take j) : Nat) : Int) + 1) = ((out + ipN (FR.take (j + 1)) : Nat) : Int) := by rw [hsn, IntWalk.i64_in _ (by omega)]; omega
            exact hK.elim
        · have hp := rParseE_fn fb hb (by omega)
          have hmz : macZ z 1 = [z 6, z 7, z 8, z 9, z 10, z 11] := rfl
          rw [hmz] at he
          try rw [hmz] at ht
          rcases ht with rfl | ⟨rfl, hK⟩
          · have hpe : parseE fb = (⟨[d0, d1, d2, d3, d4, d5], [z 6, z 7, z 8, z 9, z 10, z 11], 2054, l2⟩, 0) := by rw [he]; exact parse_put _ _ _ _ _ _ _ _ _ _ _ _ _ _ (by decide) (by decide)
            have hix : ipX ((1 : Int), fb) = 0 := by unfold ipX; rw [hpe]; rfl
            rw [hpe] at hp
            rw [hix] at hsn
            have eo : out + ipN (FR.take (j + 1)) = out + ipN (FR.take j) := by rw [hsn]; omega
            conv => whnf
            refine ⟨rfl, ⟨by omega, by omega⟩, fun y hy => ?_⟩
            obtain rfl := Option.some.inj (hfx.symm.trans hy)
            conv => whnf
            (refine CallVC.pure (hp) rfl ?_; rintro _ rfl; conv => whnf)
            refine ⟨rfl, ⟨by omega, by omega⟩, fun y hy => ?_⟩
            obtain rfl := Option.some.inj (hfx.symm.trans hy)
            conv => whnf
            refine ⟨(show (0 : Int) ≤ 1 ∧ (1 : Int) < ((2 : Nat) : Int) by decide), ?_⟩
            conv => whnf
            refine ⟨by kernel_rfl, rfl, ?_⟩
            conv => whnf
            rw [e6, e7, e8, e9, e10, e11]
            rw [show eqD [u8D (z 6 : Int), u8D (z 7 : Int), u8D (z 8 : Int), u8D (z 9 : Int), u8D (z 10 : Int), u8D (z 11 : Int)] [u8D (z 6 : Int), u8D (z 7 : Int), u8D (z 8 : Int), u8D (z 9 : Int), u8D (z 10 : Int), u8D (z 11 : Int)] = true from eq6 _ _ _ _ _ _]
            conv => whnf
            rw [ej, ← eo]
            refine ⟨j + 1, [], [], ?_, q4', by show FR.length - (j + 1) < FR.length - j; omega⟩
            repeat' (first | exact trivial | exact .inl (DLe.refl _) | exact .inl (DLe.nil _ _) | (refine .inr ⟨rfl, _, ?_, rfl⟩; rfl) | exact rfl | exact .inl rfl | exact .inr ⟨rfl, rfl, rfl, rfl⟩ | exact Nat.zero_le _ | constructor)
          · have hpe : parseE fb = (⟨[d0, d1, d2, d3, d4, d5], [z 6, z 7, z 8, z 9, z 10, z 11], 2048, l2⟩, 0) := by rw [he]; exact parse_put _ _ _ _ _ _ _ _ _ _ _ _ _ _ (by decide) (by decide)
            have hix : ipX ((1 : Int), fb) = 1 := by unfold ipX; rw [hpe]; rfl
            rw [hpe] at hp
            rw [hix] at hsn
            have eo : IntKind.i64.wrap (((out + ipN (FR.take j) : Nat) : Int) + 1) = ((out + ipN (FR.take (j + 1)) : Nat) : Int) := by rw [hsn, IntWalk.i64_in _ (by omega)]; omega
            exact hK.elim
      · have q4' : j = FR.length := by have := of_decide_eq_false q4; omega
        subst q4'
        rw [List.take_length]
        have hsm3 := hI3.sum
        have hfw3 := hI3.few
        have hq3 := hI3.all.q
        have hm3 := hI3.all.m
        have es1 : IntKind.i64.wrap (((out + ipN FR : Nat) : Int) + (((lost + lo) : Nat) : Int)) = ((out + ipN FR + (lost + lo) : Nat) : Int) := by rw [IntWalk.i64_in _ (by omega)]; omega
        have es2 : IntKind.i64.wrap (((out + ipN FR + (lost + lo) : Nat) : Int) + ((waitsT T' : Nat) : Int)) = ((took : Nat) : Int) := by rw [IntWalk.i64_in _ (by omega)]; omega
        conv => whnf
        rw [es1]
        refine CallVC.nwaits3 (i := 0) hI3 rfl ?_
        conv => whnf
        rw [es2]
        refine Fork.intro (fun q6 => ?_) (fun q6 => ?_)
        · exact absurd q6 (by simp)
        conv => whnf
        refine CallVC.nwaits3 (i := 0) hI3 rfl ?_
        conv => whnf
        refine Fork.intro (fun q7 => ?_) (fun q7 => ?_)
        · exact absurd (of_decide_eq_true q7) (by omega)
        conv => whnf
        refine CallVC.nlen3 (i := 0) hI3 rfl ?_
        conv => whnf
        refine Fork.intro (fun q8 => ?_) (fun q8 => ?_)
        · exact absurd (of_decide_eq_true q8) (by omega)
        conv => whnf
        rw [ek]
        refine ⟨(k + 1, d', T', S1, took, out + ipN FR, (lost + lo)), [], [], ?_, ⟨q2', hI3⟩, by show 60 - (k + 1) < 60 - k; omega⟩
        repeat' (first | exact trivial | exact .inl (DLe.refl _) | exact .inl (DLe.nil _ _) | (refine .inr ⟨rfl, _, ?_, rfl⟩; rfl) | exact rfl | exact .inl rfl | exact .inr ⟨rfl, rfl, rfl, rfl⟩ | exact Nat.zero_le _ | constructor)
end Go.Proofs.Ytfepckbhnghpeaa.V
