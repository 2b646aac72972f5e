/-
  Ethernet addresses read by the program, by value. Conditions: texts not too long.
-/
import Derived.Test.YtbhmnloklpdmiaaDoorAj
namespace Go.Proofs.YtbhmnloklpdmiaaDoor.V
open Go.RowKit
attribute [local irreducible] Fn FnN OpVC

theorem bv8_or (x y : Nat) (hx : x < 256) (hy : y < 256) : (BitVec.ofInt 8 (x : Int) ||| BitVec.ofInt 8 (y : Int)).toNat = x ||| y := by
  rw [BitVec.toNat_or, BitVec.toNat_ofInt, BitVec.toNat_ofInt]
  congr 1 <;> omega
theorem u8_put (x k : Nat) (hx : x < 256) (hk : k < 16) : IntKind.u8.wrap (((BitVec.ofInt IntKind.u8.bits (IntKind.u8.wrap ((x : Int) * 2 ^ (min (4 : Int).toNat IntKind.u8.bits))) ||| BitVec.ofInt IntKind.u8.bits (IntKind.u8.wrap (k : Int))).toNat : Nat) : Int) = ((x * 16 % 256 + k : Nat) : Int) := by
  have e : IntKind.u8.wrap ((x : Int) * 2 ^ (min (4 : Int).toNat IntKind.u8.bits)) = ((x * 16 % 256 : Nat) : Int) := by
    show IntKind.u8.wrap ((x : Int) * 16) = _
    rw [u8_wrap']; omega
  have e2 : IntKind.u8.wrap (k : Int) = ((k : Nat) : Int) := u8_small (by omega)
  rw [e, e2]
  have := bv8_or (x * 16 % 256) k (Nat.mod_lt _ (by decide)) (by omega)
  rw [show (BitVec.ofInt IntKind.u8.bits ((x * 16 % 256 : Nat) : Int) ||| BitVec.ofInt IntKind.u8.bits ((k : Nat) : Int)).toNat = x * 16 % 256 ||| k from this]
  have h2 : x * 16 % 256 = 2 ^ 4 * (x % 16) := by omega
  have h3 : x * 16 % 256 ||| k = x * 16 % 256 + k := by
    rw [h2]; exact (Nat.two_pow_add_eq_or_of_lt (i := 4) (b := k) hk (x % 16)).symm
  rw [h3]
  exact u8_small (by omega)
def macRes' : Option (List Nat) → D
  | some m => .tup [.agg (macD m), intD 0]
  | none => .tup [.agg (macD zero6), intD 3]
theorem mpart_drop {i : Nat} {m : List Nat} {l : List Nat} {k x : Nat} (hx : l[k]? = some x) : mpart i m (l.drop k) = match mstep i m x with
    | none => none
    | some m' => mpart i m' (l.drop (k + 1)) := by
  obtain ⟨hk, rfl⟩ := List.getElem?_eq_some_iff.1 hx
  rw [List.drop_eq_getElem_cons hk, mpart]
  rfl
theorem mparts_drop {m : List Nat} {P : List (List Nat)} {k : Nat} {p : List Nat} (hx : P[k]? = some p) : mparts k m (P.drop k) = match mpart k m p with
    | none => none
    | some m' => mparts (k + 1) m' (P.drop (k + 1)) := by
  obtain ⟨hk, rfl⟩ := List.getElem?_eq_some_iff.1 hx
  rw [List.drop_eq_getElem_cons hk, mparts]
  rfl
theorem pMac_no {l : List Nat} (h : mparts 0 zero6 (splitC l) = none) : pMac l = none := by unfold pMac; rw [h]
theorem splitC_byt {l : List Nat} (h : Byt l) : ∀ p, p ∈ splitC l → Byt p ∧ p.length ≤ l.length := by
  induction l with
  | nil => intro p hp; simp [splitC] at hp; subst hp; exact ⟨.nil, Nat.le_refl _⟩
  | cons c l ih =>
    intro p hp
    rw [splitC] at hp
    have ih := ih h.tail
    cases hc : decide (c = 58) with
    | true =>
      rw [hc] at hp
      rcases List.mem_cons.1 hp with rfl | hp
      · exact ⟨.nil, Nat.zero_le _⟩
      · have := ih p hp; exact ⟨this.1, by simp only [List.length_cons]; omega⟩
    | false =>
      rw [hc] at hp
      cases hq : splitC l with
      | nil =>
        rw [hq] at hp
        simp at hp; subst hp
        exact ⟨.cons h.head .nil, by simp⟩
      | cons q r =>
        rw [hq] at hp ih
        rcases List.mem_cons.1 hp with rfl | hp
        · have := ih q List.mem_cons_self
          exact ⟨.cons h.head this.1, by simp only [List.length_cons]; omega⟩
        · have := ih p (List.mem_cons_of_mem _ hp); exact ⟨this.1, by simp only [List.length_cons]; omega⟩
theorem splitC_len (l : List Nat) : (splitC l).length ≤ l.length + 1 := by
  induction l with
  | nil => simp [splitC]
  | cons c l ih =>
    rw [splitC]
    cases decide (c = 58) with
    | true => simp only [List.length_cons]; omega
    | false =>
      cases hq : splitC l with
      | nil => simp
      | cons q r => rw [hq] at ih; simp only [List.length_cons] at ih ⊢; omega

set_option maxHeartbeats 8000000 in
theorem parsemac_fn (l : List Nat) (hl : Byt l) (hlen : l.length ≤ 900) : Fn Tryd.prog 13 [strD l] fun d => d = macRes' (pMac l) := by
  refine fnOf [] Tryd.func13 rfl (by kernel_rfl) (Nat.le_of_ble_eq_true rfl) ?_
  have hsp := split_fn l hl (by omega)
  have hbyt := splitC_byt hl
  have hpl := splitC_len l
  have hpm : pMac l = match mparts 0 zero6 (splitC l) with
    | none => none
    | some m => match decide (mtxt m = l) with
      | true => some m
      | false => none := by unfold pMac; rfl
  have hno : mparts 0 zero6 (splitC l) = none → pMac l = none := pMac_no
  generalize splitC l = P at *
  conv => whnf
  refine CallVC.pure hsp rfl ?_
  rintro _ rfl
  conv => whnf
  refine ⟨Nat × List Nat, fun g => ⟨[(13, intD g.1), (12, intD P.length), (11, rowsT P), (4, .loc 1 0), (2, .loc 0 0), (0, strD l)], [(1, .cells 33 (macD g.2)), (0, .cells 33 (macD zero6))], 2, ([], 0)⟩,
    fun g => g.1 ≤ P.length ∧ MacOk g.2 ∧ mparts 0 zero6 P = mparts g.1 g.2 (P.drop g.1), fun g => P.length - g.1, ⟨(0, zero6), [], [], ?_, Nat.zero_le _, zero6_ok, rfl⟩, ?_⟩
  · repeat' (first | exact trivial | exact .inl (DLe.refl _) | exact .inl (DLe.nil _ _) | (refine .inr ⟨rfl, _, ?_, rfl⟩; rfl) | exact rfl | exact Nat.zero_le _ | constructor)
  · rintro ⟨k, m⟩ ⟨hk, hm, hms⟩
    dsimp only at hk hm hms
    dsimp only
    conv => whnf
    cases gk : decide ((k : Int) < (P.length : Int)) with
    | false =>
      have hke : k = P.length := by have := of_decide_eq_false gk; omega
      rw [hke, List.drop_length, mparts] at hms
      rw [hms] at hpm
      simp only [] at hpm
      obtain ⟨a, b, c, d, e, f, rfl, _⟩ := hm.six
      have ht := mactext_fn _ hm
      have hmb := mtxt_byt hm
      rw [hpm]
      conv => whnf
      refine CallVC.pure ht rfl ?_
      rintro _ rfl
      conv => whnf
      rw [strB_beq hmb hl]
      cases decide (mtxt [a, b, c, d, e, f] = l) with
      | true =>
        conv => whnf
        rfl
      | false =>
        conv => whnf
        rfl
    | true =>
    have hklt := of_decide_eq_true gk
    obtain ⟨p, hp⟩ : ∃ p, P[k]? = some p := ⟨P[k]'(by omega), List.getElem?_eq_getElem _⟩
    obtain ⟨hpb, hpl2⟩ := hbyt p (List.mem_of_getElem? hp)
    have hdrop := mparts_drop (m := m) hp
    rw [← hms] at hdrop
    conv => whnf
    refine ⟨rfl, ⟨by omega, by omega⟩, fun x hx => ?_⟩
    obtain rfl : p = x := by rw [nat_toNat, hp] at hx; injection hx
    conv => whnf
    refine op_rangeStr ttH rfl rfl rfl ?_
    conv => whnf
    refine ⟨Nat × List Nat, fun g => ⟨[(19, .loc 2 0), (13, intD k), (12, intD P.length), (11, rowsT P), (5, intD k), (4, .loc 1 0), (2, .loc 0 0), (0, strD l)], [(2, strI (strB p) g.1), (1, .cells 33 (macD g.2)), (0, .cells 33 (macD zero6))], 3, ([], 0)⟩,
      fun g => g.1 ≤ p.length ∧ MacOk g.2 ∧ mpart k m p = mpart k g.2 (p.drop g.1), fun g => p.length - g.1, ⟨(0, m), [], [], ?_, Nat.zero_le _, hm, rfl⟩, ?_⟩
    · obtain ⟨a0, b0, c0, d0, e0, f0, rfl, _⟩ := hm.six
      repeat' (first | exact trivial | exact .inl (DLe.refl _) | exact .inl (DLe.nil _ _) | (refine .inr ⟨rfl, _, ?_, rfl⟩; rfl) | exact rfl | exact Nat.zero_le _ | constructor)
    · rintro ⟨j, m1⟩ ⟨hj, hm1, hmp⟩
      dsimp only at hj hm1 hmp
      dsimp only
      conv => whnf
      refine op_nextStr rfl rfl rfl (fun ch w hlt hdc => ?_) (fun hge => ?_)
      · rw [strB_size] at hlt
        obtain ⟨x, hx⟩ : ∃ x, p[j]? = some x := ⟨_, List.getElem?_eq_getElem hlt⟩
        have hx256 := hpb.get hx
        have hst := mpart_drop (i := k) (m := m1) hx
        rw [← hmp] at hst
        have hbad : mstep k m1 x = none → pMac l = none := fun h => hno (by rw [hdrop, hst, h])
        have hi := index_fn (ch % 256) (Nat.mod_lt _ (by decide))
        have ew : IntKind.u8.wrap (ch : Int) = ((ch % 256 : Nat) : Int) := by rw [u8_wrap']; omega
        conv => whnf
        refine CallVC.pure (Q := fun d => d = .v (.int .i64 (ixD (ch % 256)))) ?_ rfl ?_
        · exact (congrArg (fun z => Fn Tryd.prog 29 [strD figs, .v (.int .u8 z)] fun d => d = .v (.int .i64 (ixD (ch % 256)))) ew).mpr hi
        rintro _ rfl
        conv => whnf
        by_cases hx7 : x < 128
        · rw [decode_low hpb hx hx7] at hdc
          injection hdc with h1 h2; subst h1 h2
          have e256 : x % 256 = x := by omega
          rw [e256]
          cases g6 : decide ((6 : Int) ≤ (k : Int)) with
          | true =>
            rw [hbad (by
              unfold mstep
              split
              · rfl
              · rw [decide_eq_false (by have := of_decide_eq_true g6; omega)])]
            conv => whnf
            rfl
          | false =>
            have hk6 : k < 6 := by have := of_decide_eq_false g6; omega
            conv => whnf
            refine Fork.intro (fun g => absurd (of_decide_eq_true g) (by omega)) (fun g => ?_)
            conv => whnf
            cases hu : unhex x with
            | none =>
              have hix : ixD x = -1 := by unfold ixD; rw [hu]
              rw [hbad (by unfold mstep; rw [hu]), hix]
              conv => whnf
              rfl
            | some n =>
              have hix : ixD x = ((n : Nat) : Int) := by unfold ixD; rw [hu]
              have hn := (unhex_some hu).1
              have hms2 : mstep k m1 x = some (m1.set k (m1.getD k 0 * 16 % 256 + n)) := by unfold mstep; rw [hu, decide_eq_true hk6]
              have hm2 := mstep_ok hm1 hms2
              rw [hms2] at hst
              rw [hix]
              conv => whnf
              obtain ⟨a, b, c, d, e, f, rfl, ha, hb, hc, hd, he, hf⟩ := hm1.six
              rcases (by omega : k = 0 ∨ k = 1 ∨ k = 2 ∨ k = 3 ∨ k = 4 ∨ k = 5) with rfl | rfl | rfl | rfl | rfl | rfl
              · have hset : [a, b, c, d, e, f].set 0 ([a, b, c, d, e, f].getD 0 0 * 16 % 256 + n) = [a * 16 % 256 + n, b, c, d, e, f] := rfl
                rw [hset] at hst hm2
                conv => whnf
                refine ⟨by decide, ?_⟩
                conv => whnf
                refine ⟨by decide, ?_⟩
                conv => whnf
                refine ⟨by decide, ?_⟩
                conv => whnf
                rw [u8_put a n ha hn]
                refine ⟨(j + 1, [a * 16 % 256 + n, b, c, d, e, f]), [], [], ?_, ⟨hlt, hm2, hst⟩, by show p.length - (j + 1) < p.length - j; omega⟩
                repeat' (first | exact trivial | exact .inl (DLe.refl _) | exact .inl (DLe.nil _ _) | (refine .inr ⟨rfl, _, ?_, rfl⟩; rfl) | exact rfl | exact Nat.zero_le _ | constructor)
              · have hset : [a, b, c, d, e, f].set 1 ([a, b, c, d, e, f].getD 1 0 * 16 % 256 + n) = [a, b * 16 % 256 + n, c, d, e, f] := rfl
                rw [hset] at hst hm2
                conv => whnf
                refine ⟨by decide, ?_⟩
                conv => whnf
                refine ⟨by decide, ?_⟩
                conv => whnf
                refine ⟨by decide, ?_⟩
                conv => whnf
                rw [u8_put b n hb hn]
                refine ⟨(j + 1, [a, b * 16 % 256 + n, c, d, e, f]), [], [], ?_, ⟨hlt, hm2, hst⟩, by show p.length - (j + 1) < p.length - j; omega⟩
                repeat' (first | exact trivial | exact .inl (DLe.refl _) | exact .inl (DLe.nil _ _) | (refine .inr ⟨rfl, _, ?_, rfl⟩; rfl) | exact rfl | exact Nat.zero_le _ | constructor)
              · have hset : [a, b, c, d, e, f].set 2 ([a, b, c, d, e, f].getD 2 0 * 16 % 256 + n) = [a, b, c * 16 % 256 + n, d, e, f] := rfl
                rw [hset] at hst hm2
                conv => whnf
                refine ⟨by decide, ?_⟩
                conv => whnf
                refine ⟨by decide, ?_⟩
                conv => whnf
                refine ⟨by decide, ?_⟩
                conv => whnf
                rw [u8_put c n hc hn]
                refine ⟨(j + 1, [a, b, c * 16 % 256 + n, d, e, f]), [], [], ?_, ⟨hlt, hm2, hst⟩, by show p.length - (j + 1) < p.length - j; omega⟩
                repeat' (first | exact trivial | exact .inl (DLe.refl _) | exact .inl (DLe.nil _ _) | (refine .inr ⟨rfl, _, ?_, rfl⟩; rfl) | exact rfl | exact Nat.zero_le _ | constructor)
              · have hset : [a, b, c, d, e, f].set 3 ([a, b, c, d, e, f].getD 3 0 * 16 % 256 + n) = [a, b, c, d * 16 % 256 + n, e, f] := rfl
                rw [hset] at hst hm2
                conv => whnf
                refine ⟨by decide, ?_⟩
                conv => whnf
                refine ⟨by decide, ?_⟩
                conv => whnf
                refine ⟨by decide, ?_⟩
                conv => whnf
                rw [u8_put d n hd hn]
                refine ⟨(j + 1, [a, b, c, d * 16 % 256 + n, e, f]), [], [], ?_, ⟨hlt, hm2, hst⟩, by show p.length - (j + 1) < p.length - j; omega⟩
                repeat' (first | exact trivial | exact .inl (DLe.refl _) | exact .inl (DLe.nil _ _) | (refine .inr ⟨rfl, _, ?_, rfl⟩; rfl) | exact rfl | exact Nat.zero_le _ | constructor)
              · have hset : [a, b, c, d, e, f].set 4 ([a, b, c, d, e, f].getD 4 0 * 16 % 256 + n) = [a, b, c, d, e * 16 % 256 + n, f] := rfl
                rw [hset] at hst hm2
                conv => whnf
                refine ⟨by decide, ?_⟩
                conv => whnf
                refine ⟨by decide, ?_⟩
                conv => whnf
                refine ⟨by decide, ?_⟩
                conv => whnf
                rw [u8_put e n he hn]
                refine ⟨(j + 1, [a, b, c, d, e * 16 % 256 + n, f]), [], [], ?_, ⟨hlt, hm2, hst⟩, by show p.length - (j + 1) < p.length - j; omega⟩
                repeat' (first | exact trivial | exact .inl (DLe.refl _) | exact .inl (DLe.nil _ _) | (refine .inr ⟨rfl, _, ?_, rfl⟩; rfl) | exact rfl | exact Nat.zero_le _ | constructor)
              · have hset : [a, b, c, d, e, f].set 5 ([a, b, c, d, e, f].getD 5 0 * 16 % 256 + n) = [a, b, c, d, e, f * 16 % 256 + n] := rfl
                rw [hset] at hst hm2
                conv => whnf
                refine ⟨by decide, ?_⟩
                conv => whnf
                refine ⟨by decide, ?_⟩
                conv => whnf
                refine ⟨by decide, ?_⟩
                conv => whnf
                rw [u8_put f n hf hn]
                refine ⟨(j + 1, [a, b, c, d, e, f * 16 % 256 + n]), [], [], ?_, ⟨hlt, hm2, hst⟩, by show p.length - (j + 1) < p.length - j; omega⟩
                repeat' (first | exact trivial | exact .inl (DLe.refl _) | exact .inl (DLe.nil _ _) | (refine .inr ⟨rfl, _, ?_, rfl⟩; rfl) | exact rfl | exact Nat.zero_le _ | constructor)
        · have hc := decode_high hpb hx hx7 hdc
          have hun : unhex x = none := by unfold unhex; rw [if_neg (by omega), if_neg (by omega)]
          rw [hbad (by unfold mstep; rw [hun])]
          cases g6 : decide ((6 : Int) ≤ (k : Int)) with
          | true =>
            conv => whnf
            rfl
          | false =>
            conv => whnf
            refine Fork.intro (fun g => ?_) (fun g => absurd (of_decide_eq_false g) (by omega))
            conv => whnf
            rfl
      · rw [strB_size] at hge
        have hje : j = p.length := by omega
        rw [hje, List.drop_length, mpart] at hmp
        rw [hmp] at hdrop
        conv => whnf
        rw [wrap_next (n := 1000) (by omega) (by decide)]
        refine ⟨(k + 1, m1), [], [], ?_, ⟨by show k + 1 ≤ _; omega, hm1, hdrop⟩, by show P.length - (k + 1) < P.length - k; omega⟩
        obtain ⟨a0, b0, c0, d0, e0, f0, rfl, _⟩ := hm1.six
        repeat' (first | exact trivial | exact .inl (DLe.refl _) | exact .inl (DLe.nil _ _) | (refine .inr ⟨rfl, _, ?_, rfl⟩; rfl) | exact rfl | exact Nat.zero_le _ | constructor)
end Go.Proofs.YtbhmnloklpdmiaaDoor.V
