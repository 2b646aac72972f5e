/-
  Packets as bytes: the program's and the document's. Conditions: numbers of their types; not too many bytes.
  ICMP messages, packets within packets: the document's, the program's, by value. Conditions: bytes, not too many; numbers of their types.
  Packets as bytes, whole: the program's and the document's. Conditions: numbers of their types; not too many bytes.
-/
import Derived.Test.YtfepckbhnghpeaaK14
import Derived.Test.YtfepckbhnghpeaaK5
namespace Go.Proofs.Ytfepckbhnghpeaa.V
open Go.RowKit
attribute [local irreducible] Fn FnN FnR OpVC DLe

def mayP (p : Pkt) : Bool := match decide (40 < p.opts.length) with
  | true => false
  | false => match decide (p.opts.length % 4 = 0) with
    | false => false
    | true => decide (p.off < 8192)
theorem ipSize_fn (p : Pkt) (hl : p.opts.length ≤ 100000) : Fn Try.prog 62 [.agg (pktD p)] fun d => d = intD (20 + p.opts.length : Nat) := by
  refine fnOf [] Try.func62 rfl (by kernel_rfl) (Nat.le_of_ble_eq_true rfl) ?_
  have e : IntKind.i64.wrap (20 + (p.opts.length : Int)) = ((20 + p.opts.length : Nat) : Int) := by rw [IntWalk.i64_in _ (by omega)]; omega
  conv => whnf
  rw [e]
set_option maxHeartbeats 1000000 in
theorem ipCheck_fn (p : Pkt) (hl : p.opts.length ≤ 10000) (hd : p.data.length ≤ 50000) : Fn Try.prog 46 [.agg (pktD p)] fun d => d = intD (match mayP p with | true => 0 | false => 2) := by
  refine fnOf [] Try.func46 rfl (by kernel_rfl) (Nat.le_of_ble_eq_true rfl) ?_
  have hs := ipSize_fn p (by omega)
  have em : (p.opts.length : Int).tmod 4 = ((p.opts.length % 4 : Nat) : Int) := by rw [Int.tmod_eq_emod_of_nonneg (by omega)]; omega
  have e1 : IntKind.i64.wrap (65535 - ((20 + p.opts.length : Nat) : Int)) = ((65515 - p.opts.length : Nat) : Int) := by rw [IntWalk.i64_in _ (by omega)]; omega
  unfold mayP
  conv => whnf
  refine Fork.intro (fun q1 => ?_) (fun q1 => ?_)
  · rw [decide_eq_true (show 40 < p.opts.length by have := of_decide_eq_true q1; omega)]
    conv => whnf
    try rfl
  rw [decide_eq_false (show ¬ 40 < p.opts.length by have := of_decide_eq_false q1; omega)]
  conv => whnf
  refine ⟨by decide, ?_⟩
  conv => whnf
  rw [em]
  refine Fork.intro (fun q2 => ?_) (fun q2 => ?_)
  · rw [decide_eq_false (show ¬ p.opts.length % 4 = 0 by intro h; rw [h] at q2; exact absurd q2 (by decide))]
    conv => whnf
    try rfl
  rw [decide_eq_true (show p.opts.length % 4 = 0 by
    have : decide (((p.opts.length % 4 : Nat) : Int) = 0) = true := by simpa using q2
    have := of_decide_eq_true this
    omega)]
  conv => whnf
  refine Fork.intro (fun q3 => ?_) (fun q3 => ?_)
  · rw [decide_eq_false (show ¬ p.off < 8192 by have := of_decide_eq_true q3; omega)]
    conv => whnf
    try rfl
  rw [decide_eq_true (show p.off < 8192 by have := of_decide_eq_false q3; omega)]
  conv => whnf
  (refine CallVC.pure (hs) rfl ?_; rintro _ rfl; conv => whnf)
  rw [e1]
  refine Fork.intro (fun q4 => ?_) (fun q4 => ?_)
  · exact absurd (of_decide_eq_true q4) (by have := of_decide_eq_false q1; omega)
  conv => whnf
  try rfl
theorem ipBit_fn (b : Bool) (n : Int) : Fn Try.prog 63 [boolD b, u16D n] fun d => d = u16D (match b with | true => n | false => 0) := by
  refine fnOf [] Try.func63 rfl (by kernel_rfl) (Nat.le_of_ble_eq_true rfl) ?_
  cases b with
  | true =>
    conv => whnf
    try rfl
  | false =>
    conv => whnf
    try rfl
theorem not16 (n : Nat) (h : n < 65536) : IntKind.u16.wrap (((BitVec.ofInt IntKind.u16.bits (if IntKind.u16.signed = true then -1 else IntKind.u16.max) ^^^ BitVec.ofInt IntKind.u16.bits (n : Int)).toNat : Nat) : Int) = ((65535 - n : Nat) : Int) := by
  have e0 : BitVec.ofInt IntKind.u16.bits (if IntKind.u16.signed = true then -1 else IntKind.u16.max) = BitVec.allOnes 16 := by kernel_rfl
  have e : (BitVec.allOnes 16 ^^^ BitVec.ofInt 16 (n : Int)).toNat = 65535 - n := by
    rw [BitVec.allOnes_xor, BitVec.toNat_not, BitVec.toNat_ofInt]
    show 2 ^ 16 - 1 - ((n : Int) % 65536).toNat = _
    omega
  rw [e0]
  show IntKind.u16.wrap (((BitVec.allOnes 16 ^^^ BitVec.ofInt 16 (n : Int)).toNat : Nat) : Int) = _
  rw [e, u16_wrap]
  omega
theorem sumOf_fn (l : List Nat) (hl : Byt l) (hlen : l.length ≤ 1000000) : Fn Try.prog 66 [.lit 1 [[octR l]]] fun d => d = u16D (65535 - onesL l : Nat) := by
  refine fnOf [] Try.func66 rfl (by kernel_rfl) (Nat.le_of_ble_eq_true rfl) ?_
  have ho := onesA_fn [[octR l]] l (join1_fn l hlen) rfl hl hlen
  have hn := not16 (onesL l) (onesL_lt l)
  conv => whnf
  (refine CallVC.pure (ho) rfl ?_; rintro _ rfl; conv => whnf)
  rw [hn]
def set16 (l : List Nat) (n : Nat) : List Nat := (l.set 10 (n / 256 % 256)).set 11 (n % 256)
theorem octSet16_fn (l : List Nat) (n : Nat) (hlen : l.length ≤ 1000000) (h : 12 ≤ l.length) : Fn Try.prog 65 [octR l, intD 10, u16D n] fun d => d = .tup [octR (set16 l n), boolD true] := by
  refine FnX (fnOf [] Try.func65 rfl (by kernel_rfl) (Nat.le_of_ble_eq_true rfl) ?_)
  obtain ⟨a1, a2⟩ := b2_wrap n
  have ht := octThere_fn l 10 2 hlen (by decide) (by decide)
  rw [decide_eq_true (show 10 + 2 ≤ l.length from h)] at ht
  have hc := octClone_row l hlen
  conv => whnf
  (refine CallVC.pure (ht) rfl ?_; rintro _ rfl; conv => whnf)
  refine CallVC.row hc rfl ?_
  conv => whnf
  refine ⟨by decide, ?_⟩
  conv => whnf
  rw [a1, a2]
  refine ⟨rfl, ⟨by decide, by omega⟩, ?_⟩
  conv => whnf
  refine ⟨rfl, (show 10 < l.length by omega), fun x hx => ?_⟩
  conv => whnf
  refine ⟨rfl, n / 256 % 256, rfl, ?_⟩
  conv => whnf
  rw [show IntKind.i64.wrap (10 + 1) = 11 from by kernel_rfl]
  refine ⟨rfl, ⟨by decide, by show (11 : Int) < ((l.set 10 (n / 256 % 256)).length : Nat); rw [List.length_set]; omega⟩, ?_⟩
  conv => whnf
  refine ⟨rfl, (show 11 < (l.set 10 (n / 256 % 256)).length by rw [List.length_set]; omega), fun x hx => ?_⟩
  conv => whnf
  refine ⟨rfl, n % 256, rfl, ?_⟩
  conv => whnf
  exact DLe.refl _

theorem FnRLe {f : FuncId} {args args' : List D} {α : Type} {el : TypeId} {e : Nat} {enc : α → List D} {L : List α} (h : FnR Try.prog f args α el e enc L) (hle : ∀ C vs, reps C args' vs → reps C args vs) : FnR Try.prog f args' α el e enc L := by
  unfold FnR at *
  exact ⟨h.1, fun w B vs hB hr => h.2 w B vs hB (hle _ _ hr)⟩
/-! ### A packet's head -/
def wordP (p : Pkt) : Nat := p.off + (match p.df with | true => 16384 | false => 0) + (match p.mf with | true => 8192 | false => 0)
def headP (p : Pkt) (s : Nat) : List Nat := [64 + (20 + p.opts.length) / 4, p.tos, (20 + p.opts.length + p.data.length) / 256 % 256, (20 + p.opts.length + p.data.length) % 256, p.id / 256 % 256, p.id % 256, wordP p / 256 % 256, wordP p % 256, p.ttl, p.proto, s / 256 % 256, s % 256] ++ (b4 p.src ++ b4 p.dst ++ p.opts)
theorem headP_set (p : Pkt) (s : Nat) : set16 (headP p 0) s = headP p s := rfl
theorem headP_byt {p : Pkt} (h : p.ok) (ho : p.opts.length ≤ 40) (s : Nat) : Byt (headP p s) := by
  unfold headP
  refine bytA ?_ (bytA (bytA (b4_byt _) (b4_byt _)) h.opts)
  have h1 := h.tos
  have h2 := h.ttl
  have h3 := h.proto
  intro c hc
  simp only [List.mem_cons, List.not_mem_nil, or_false] at hc
  omega
def rowT (p : Pkt) : List Nat := [64 + (20 + p.opts.length) / 4, p.tos, (20 + p.opts.length + p.data.length) / 256 % 256, (20 + p.opts.length + p.data.length) % 256, p.id / 256 % 256, p.id % 256, wordP p / 256 % 256, wordP p % 256, p.ttl, p.proto, 0, 0]
def putP (p : Pkt) : List Nat := headP p (65535 - onesL (headP p 0)) ++ p.data
theorem or_lo (a k : Nat) (h : a < 2 ^ k) : a ||| 2 ^ k = a + 2 ^ k := by
  have := Nat.two_pow_add_eq_or_of_lt h 1
  rw [Nat.mul_one] at this
  rw [Nat.or_comm, ← this, Nat.add_comm]
theorem or16 (a b : Nat) (ha : a < 65536) (hb : b < 65536) : IntKind.u16.wrap (((BitVec.ofInt IntKind.u16.bits (a : Int) ||| BitVec.ofInt IntKind.u16.bits (b : Int)).toNat : Nat) : Int) = ((a ||| b : Nat) : Int) := by
  have hlt : a ||| b < 2 ^ 16 := Nat.or_lt_two_pow ha hb
  have e : (BitVec.ofInt 16 (a : Int) ||| BitVec.ofInt 16 (b : Int)).toNat = a ||| b := by
    rw [BitVec.toNat_or, BitVec.toNat_ofInt, BitVec.toNat_ofInt]
    congr 1
    · show ((a : Int) % 65536).toNat = a; omega
    · show ((b : Int) % 65536).toNat = b; omega
  show IntKind.u16.wrap (((BitVec.ofInt 16 (a : Int) ||| BitVec.ofInt 16 (b : Int)).toNat : Nat) : Int) = _
  rw [e, u16_wrap]
  omega
def dfN (p : Pkt) : Nat := match p.df with | true => 16384 | false => 0
def mfN (p : Pkt) : Nat := match p.mf with | true => 8192 | false => 0
theorem word_or (p : Pkt) (h : p.off < 8192) : (p.off ||| dfN p) ||| mfN p = wordP p ∧ p.off ||| dfN p < 65536 := by
  have a1 : p.off ||| 16384 = p.off + 16384 := or_lo p.off 14 (by omega)
  have a2 : p.off ||| 8192 = p.off + 8192 := or_lo p.off 13 (by omega)
  have a3 : (p.off + 8192) ||| 16384 = p.off + 8192 + 16384 := or_lo (p.off + 8192) 14 (by omega)
  unfold dfN mfN wordP
  cases p.df <;> cases p.mf <;> dsimp only
  · simp; omega
  · rw [Nat.or_zero, a2]; omega
  · rw [Nat.or_zero, a1]; omega
  · rw [Nat.or_assoc, Nat.or_comm 16384 8192, ← Nat.or_assoc, a2, a3, a1]; omega
set_option maxRecDepth 10000 in
set_option maxHeartbeats 4000000 in
theorem ipTop_fn (p : Pkt) (h : p.ok) (ho : p.opts.length ≤ 40) (hf : p.off < 8192) (hd : p.data.length ≤ 50000) : Fn Try.prog 48 [.agg (pktD p)] fun d => d = octR (headP p (65535 - onesL (headP p 0))) := by
  refine fnOf [(1, [0, 5, 6, 1, 2, 3, 4, 7, 8]), (2, [0, 1, 3, 4, 5, 8, 9, 10, 11, 12, 13, 16, 17, 2, 6, 7, 14, 15, 18, 19, 20, 21, 22]), (3, [1001, 0, 1, 2, 3, 4, 7, 9])] Try.func48 rfl (by kernel_rfl) (Nat.le_of_ble_eq_true rfl) ?_
  have hs := ipSize_fn p (by omega)
  have hb1 := ipBit_fn p.df 16384
  have hb2 := ipBit_fn p.mf 8192
  have c1 : IntKind.u8.wrap (IntKind.i64.wrap (64 + IntKind.i64.wrap (((20 + p.opts.length : Nat) : Int).tdiv 4))) = ((64 + (20 + p.opts.length) / 4 : Nat) : Int) := by
    rw [Int.tdiv_eq_ediv_of_nonneg (by omega), IntWalk.i64_in (((20 + p.opts.length : Nat) : Int) / 4) (by omega), IntWalk.i64_in _ (by omega), u8_small (by omega)]; omega
  have c2 : IntKind.u16.wrap (IntKind.i64.wrap (((20 + p.opts.length : Nat) : Int) + (p.data.length : Int))) = ((20 + p.opts.length + p.data.length : Nat) : Int) := by
    rw [IntWalk.i64_in _ (by omega), u16_wrap]; omega
  have h1 := octPut16t_row [64 + (20 + p.opts.length) / 4, p.tos] (20 + p.opts.length + p.data.length) p.id (wordP p) (show 2 ≤ 1000000 by decide)
  have h1' := FnRLe h1 (args' := [.lit 1 [[u8D (64 + (20 + p.opts.length) / 4 : Nat)], [u8D p.tos]], .lit 1 [[u16D (20 + p.opts.length + p.data.length : Nat)], [u16D p.id], [u16D (wordP p)]]]) fun C vs hr => reps_one (l := []) (dleLit (L := [64 + (20 + p.opts.length) / 4, p.tos]) octE_flat) hr
  have ha1 : ([64 + (20 + p.opts.length) / 4, p.tos] ++ b2 (20 + p.opts.length + p.data.length) ++ b2 p.id ++ b2 (wordP p)) ++ [p.ttl, p.proto, 0, 0] = rowT p := rfl
  have hr1 : (rowT p).length ≤ 1099511627776 := by rw [show (rowT p).length = 12 from rfl]; decide
  have hr2 : (rowT p).length * 1 ≤ 140737488355328 := by rw [show (rowT p).length = 12 from rfl]; decide
  have h2 := octPut32t_fn (rowT p) p.src p.dst (by rw [show (rowT p).length = 12 from rfl]; decide)
  have h3 := joinN2_fn (rowT p ++ b4 p.src ++ b4 p.dst) p.opts (by rw [List.length_append, List.length_append, show (rowT p).length = 12 from rfl]; show 12 + 4 + 4 ≤ _; decide) (by omega)
  have ep : rowT p ++ b4 p.src ++ b4 p.dst ++ p.opts = headP p 0 := by
    unfold headP rowT
    simp only [List.append_assoc]
  rw [ep] at h3
  have hhl : (headP p 0).length = 20 + p.opts.length := by
    unfold headP
    rw [List.length_append, List.length_append, List.length_append]
    show 12 + (4 + 4 + p.opts.length) = _
    omega
  have h4 := sumOf_fn (headP p 0) (headP_byt h ho 0) (by omega)
  have h5 := octSet16_fn (headP p 0) (65535 - onesL (headP p 0)) (by omega) (by omega)
  rw [headP_set] at h5
  obtain ⟨w1, w2⟩ := word_or p hf
  have o1 := or16 p.off (dfN p) (by omega) (by unfold dfN; split <;> decide)
  have o2 := or16 (p.off ||| dfN p) (mfN p) w2 (by unfold mfN; split <;> decide)
  rw [w1] at o2
  have m1 : (match p.df with | true => (16384 : Int) | false => 0) = ((dfN p : Nat) : Int) := by unfold dfN; cases p.df <;> rfl
  have m2 : (match p.mf with | true => (8192 : Int) | false => 0) = ((mfN p : Nat) : Int) := by unfold mfN; cases p.mf <;> rfl
  rw [m1] at hb1
  rw [m2] at hb2
  conv => whnf
  (refine CallVC.pure (hs) rfl ?_; rintro _ rfl; conv => whnf)
  refine ⟨by decide, ?_⟩
  conv => whnf
  rw [c1]
  refine ⟨by decide, ?_⟩
  conv => whnf
  (refine CallVC.pure (hs) rfl ?_; rintro _ rfl; conv => whnf)
  rw [c2]
  (refine CallVC.pure (hb1) rfl ?_; rintro _ rfl; conv => whnf)
  rw [o1]
  (refine CallVC.pure (hb2) rfl ?_; rintro _ rfl; conv => whnf)
  rw [o2]
  refine ⟨by decide, ?_⟩
  conv => whnf
  refine CallVC.row h1' rfl ?_
  conv => whnf
  refine ⟨Unit, fun _ => ⟨[(3, octR (rowT p ++ b4 p.src ++ b4 p.dst)), (1, .loc 0 0)], [(0, .cells 41 (pktD p))], 2, ([], 0)⟩, ?_, fun _ => ?_⟩
  · refine ⟨?_, ?_, ?_, trivial⟩
    · conv => whnf
      refine ⟨by decide, ?_⟩
      conv => whnf
      refine ⟨?_, ?_, ?_, trivial⟩
      · conv => whnf
        refine ⟨Nat, octE, rowT p, by rw [← ha1, List.map_append]; rfl, fun _ => rfl, hr1, hr2, rfl, ?_⟩
        conv => whnf
        refine ⟨?_, ?_, trivial⟩
        · conv => whnf
          refine ⟨?_, trivial⟩
          · conv => whnf
            refine ⟨?_, trivial⟩
            · conv => whnf
              refine ⟨by decide, ?_⟩
              conv => whnf
              refine ⟨?_, trivial⟩
              · conv => whnf
                refine CallVC.look h2 rfl ?_
                rintro _ rfl
                conv => whnf
                refine ⟨?_, trivial⟩
                · conv => whnf
                  refine ⟨(), [], [], ?_⟩
                  repeat' (first | exact trivial | exact .inl (DLe.refl _) | exact .inl (DLe.nil _ _) | (refine .inr ⟨rfl, _, ?_, rfl⟩; rfl) | exact rfl | exact .inl rfl | exact .inr ⟨rfl, rfl, rfl, rfl⟩ | exact Nat.zero_le _ | constructor)
        · conv => whnf
          refine ⟨?_, trivial⟩
          · conv => whnf
            refine ⟨?_, trivial⟩
            · conv => whnf
              refine ⟨by decide, ?_⟩
              conv => whnf
              refine ⟨?_, trivial⟩
              · conv => whnf
                refine CallVC.look h2 rfl ?_
                rintro _ rfl
                conv => whnf
                refine ⟨?_, trivial⟩
                · conv => whnf
                  refine ⟨(), [], [], ?_⟩
                  repeat' (first | exact trivial | exact .inl (DLe.refl _) | exact .inl (DLe.nil _ _) | (refine .inr ⟨rfl, _, ?_, rfl⟩; rfl) | exact rfl | exact .inl rfl | exact .inr ⟨rfl, rfl, rfl, rfl⟩ | exact Nat.zero_le _ | constructor)
      · conv => whnf
        refine ⟨?_, ?_, trivial⟩
        · conv => whnf
          refine ⟨Nat, octE, rowT p, by rw [← ha1, List.map_append]; rfl, fun _ => rfl, hr1, hr2, rfl, ?_⟩
          conv => whnf
          refine ⟨?_, trivial⟩
          · conv => whnf
            refine ⟨?_, trivial⟩
            · conv => whnf
              refine ⟨by decide, ?_⟩
              conv => whnf
              refine ⟨?_, trivial⟩
              · conv => whnf
                refine CallVC.look h2 rfl ?_
                rintro _ rfl
                conv => whnf
                refine ⟨?_, trivial⟩
                · conv => whnf
                  refine ⟨(), [], [], ?_⟩
                  repeat' (first | exact trivial | exact .inl (DLe.refl _) | exact .inl (DLe.nil _ _) | (refine .inr ⟨rfl, _, ?_, rfl⟩; rfl) | exact rfl | exact .inl rfl | exact .inr ⟨rfl, rfl, rfl, rfl⟩ | exact Nat.zero_le _ | constructor)
        · conv => whnf
          refine ⟨?_, ?_, trivial⟩
          · conv => whnf
            refine ⟨Nat, octE, rowT p, by rw [← ha1, List.map_append]; rfl, fun _ => rfl, hr1, hr2, rfl, ?_⟩
            conv => whnf
            refine ⟨?_, trivial⟩
            · conv => whnf
              refine ⟨by decide, ?_⟩
              conv => whnf
              refine ⟨?_, trivial⟩
              · conv => whnf
                refine CallVC.look h2 rfl ?_
                rintro _ rfl
                conv => whnf
                refine ⟨?_, trivial⟩
                · conv => whnf
                  refine ⟨(), [], [], ?_⟩
                  repeat' (first | exact trivial | exact .inl (DLe.refl _) | exact .inl (DLe.nil _ _) | (refine .inr ⟨rfl, _, ?_, rfl⟩; rfl) | exact rfl | exact .inl rfl | exact .inr ⟨rfl, rfl, rfl, rfl⟩ | exact Nat.zero_le _ | constructor)
          · conv => whnf
            refine ⟨by decide, ?_⟩
            conv => whnf
            refine ⟨?_, trivial⟩
            · conv => whnf
              refine ⟨Nat, octE, rowT p, by rw [← ha1, List.map_append]; rfl, fun _ => rfl, hr1, hr2, rfl, ?_⟩
              conv => whnf
              refine ⟨?_, trivial⟩
              · conv => whnf
                refine CallVC.look h2 rfl ?_
                rintro _ rfl
                conv => whnf
                refine ⟨?_, trivial⟩
                · conv => whnf
                  refine ⟨(), [], [], ?_⟩
                  repeat' (first | exact trivial | exact .inl (DLe.refl _) | exact .inl (DLe.nil _ _) | (refine .inr ⟨rfl, _, ?_, rfl⟩; rfl) | exact rfl | exact .inl rfl | exact .inr ⟨rfl, rfl, rfl, rfl⟩ | exact Nat.zero_le _ | constructor)
      · conv => whnf
        refine ⟨?_, ?_, trivial⟩
        · conv => whnf
          refine ⟨Nat, octE, rowT p, by rw [← ha1, List.map_append]; rfl, fun _ => rfl, hr1, hr2, rfl, ?_⟩
          conv => whnf
          refine ⟨?_, trivial⟩
          · conv => whnf
            refine ⟨?_, trivial⟩
            · conv => whnf
              refine ⟨by decide, ?_⟩
              conv => whnf
              refine ⟨?_, trivial⟩
              · conv => whnf
                refine CallVC.look h2 rfl ?_
                rintro _ rfl
                conv => whnf
                refine ⟨?_, trivial⟩
                · conv => whnf
                  refine ⟨(), [], [], ?_⟩
                  repeat' (first | exact trivial | exact .inl (DLe.refl _) | exact .inl (DLe.nil _ _) | (refine .inr ⟨rfl, _, ?_, rfl⟩; rfl) | exact rfl | exact .inl rfl | exact .inr ⟨rfl, rfl, rfl, rfl⟩ | exact Nat.zero_le _ | constructor)
        · conv => whnf
          refine ⟨?_, ?_, trivial⟩
          · conv => whnf
            refine ⟨Nat, octE, rowT p, by rw [← ha1, List.map_append]; rfl, fun _ => rfl, hr1, hr2, rfl, ?_⟩
            conv => whnf
            refine ⟨?_, trivial⟩
            · conv => whnf
              refine ⟨by decide, ?_⟩
              conv => whnf
              refine ⟨?_, trivial⟩
              · conv => whnf
                refine CallVC.look h2 rfl ?_
                rintro _ rfl
                conv => whnf
                refine ⟨?_, trivial⟩
                · conv => whnf
                  refine ⟨(), [], [], ?_⟩
                  repeat' (first | exact trivial | exact .inl (DLe.refl _) | exact .inl (DLe.nil _ _) | (refine .inr ⟨rfl, _, ?_, rfl⟩; rfl) | exact rfl | exact .inl rfl | exact .inr ⟨rfl, rfl, rfl, rfl⟩ | exact Nat.zero_le _ | constructor)
          · conv => whnf
            refine ⟨by decide, ?_⟩
            conv => whnf
            refine ⟨?_, trivial⟩
            · conv => whnf
              refine ⟨Nat, octE, rowT p, by rw [← ha1, List.map_append]; rfl, fun _ => rfl, hr1, hr2, rfl, ?_⟩
              conv => whnf
              refine ⟨?_, trivial⟩
              · conv => whnf
                refine CallVC.look h2 rfl ?_
                rintro _ rfl
                conv => whnf
                refine ⟨?_, trivial⟩
                · conv => whnf
                  refine ⟨(), [], [], ?_⟩
                  repeat' (first | exact trivial | exact .inl (DLe.refl _) | exact .inl (DLe.nil _ _) | (refine .inr ⟨rfl, _, ?_, rfl⟩; rfl) | exact rfl | exact .inl rfl | exact .inr ⟨rfl, rfl, rfl, rfl⟩ | exact Nat.zero_le _ | constructor)
    · conv => whnf
      refine ⟨?_, ?_, trivial⟩
      · conv => whnf
        refine ⟨by decide, ?_⟩
        conv => whnf
        refine ⟨?_, ?_, trivial⟩
        · conv => whnf
          refine ⟨Nat, octE, rowT p, by rw [← ha1, List.map_append]; rfl, fun _ => rfl, hr1, hr2, rfl, ?_⟩
          conv => whnf
          refine ⟨?_, trivial⟩
          · conv => whnf
            refine ⟨?_, trivial⟩
            · conv => whnf
              refine ⟨by decide, ?_⟩
              conv => whnf
              refine ⟨?_, trivial⟩
              · conv => whnf
                refine CallVC.look h2 rfl ?_
                rintro _ rfl
                conv => whnf
                refine ⟨?_, trivial⟩
                · conv => whnf
                  refine ⟨(), [], [], ?_⟩
                  repeat' (first | exact trivial | exact .inl (DLe.refl _) | exact .inl (DLe.nil _ _) | (refine .inr ⟨rfl, _, ?_, rfl⟩; rfl) | exact rfl | exact .inl rfl | exact .inr ⟨rfl, rfl, rfl, rfl⟩ | exact Nat.zero_le _ | constructor)
        · conv => whnf
          refine ⟨?_, ?_, trivial⟩
          · conv => whnf
            refine ⟨Nat, octE, rowT p, by rw [← ha1, List.map_append]; rfl, fun _ => rfl, hr1, hr2, rfl, ?_⟩
            conv => whnf
            refine ⟨?_, trivial⟩
            · conv => whnf
              refine ⟨by decide, ?_⟩
              conv => whnf
              refine ⟨?_, trivial⟩
              · conv => whnf
                refine CallVC.look h2 rfl ?_
                rintro _ rfl
                conv => whnf
                refine ⟨?_, trivial⟩
                · conv => whnf
                  refine ⟨(), [], [], ?_⟩
                  repeat' (first | exact trivial | exact .inl (DLe.refl _) | exact .inl (DLe.nil _ _) | (refine .inr ⟨rfl, _, ?_, rfl⟩; rfl) | exact rfl | exact .inl rfl | exact .inr ⟨rfl, rfl, rfl, rfl⟩ | exact Nat.zero_le _ | constructor)
          · conv => whnf
            refine ⟨by decide, ?_⟩
            conv => whnf
            refine ⟨?_, trivial⟩
            · conv => whnf
              refine ⟨Nat, octE, rowT p, by rw [← ha1, List.map_append]; rfl, fun _ => rfl, hr1, hr2, rfl, ?_⟩
              conv => whnf
              refine ⟨?_, trivial⟩
              · conv => whnf
                refine CallVC.look h2 rfl ?_
                rintro _ rfl
                conv => whnf
                refine ⟨?_, trivial⟩
                · conv => whnf
                  refine ⟨(), [], [], ?_⟩
                  repeat' (first | exact trivial | exact .inl (DLe.refl _) | exact .inl (DLe.nil _ _) | (refine .inr ⟨rfl, _, ?_, rfl⟩; rfl) | exact rfl | exact .inl rfl | exact .inr ⟨rfl, rfl, rfl, rfl⟩ | exact Nat.zero_le _ | constructor)
      · conv => whnf
        refine ⟨?_, ?_, trivial⟩
        · conv => whnf
          refine ⟨by decide, ?_⟩
          conv => whnf
          refine ⟨?_, ?_, trivial⟩
          · conv => whnf
            refine ⟨Nat, octE, rowT p, by rw [← ha1, List.map_append]; rfl, fun _ => rfl, hr1, hr2, rfl, ?_⟩
            conv => whnf
            refine ⟨?_, trivial⟩
            · conv => whnf
              refine ⟨by decide, ?_⟩
              conv => whnf
              refine ⟨?_, trivial⟩
              · conv => whnf
                refine CallVC.look h2 rfl ?_
                rintro _ rfl
                conv => whnf
                refine ⟨?_, trivial⟩
                · conv => whnf
                  refine ⟨(), [], [], ?_⟩
                  repeat' (first | exact trivial | exact .inl (DLe.refl _) | exact .inl (DLe.nil _ _) | (refine .inr ⟨rfl, _, ?_, rfl⟩; rfl) | exact rfl | exact .inl rfl | exact .inr ⟨rfl, rfl, rfl, rfl⟩ | exact Nat.zero_le _ | constructor)
          · conv => whnf
            refine ⟨by decide, ?_⟩
            conv => whnf
            refine ⟨?_, trivial⟩
            · conv => whnf
              refine ⟨Nat, octE, rowT p, by rw [← ha1, List.map_append]; rfl, fun _ => rfl, hr1, hr2, rfl, ?_⟩
              conv => whnf
              refine ⟨?_, trivial⟩
              · conv => whnf
                refine CallVC.look h2 rfl ?_
                rintro _ rfl
                conv => whnf
                refine ⟨?_, trivial⟩
                · conv => whnf
                  refine ⟨(), [], [], ?_⟩
                  repeat' (first | exact trivial | exact .inl (DLe.refl _) | exact .inl (DLe.nil _ _) | (refine .inr ⟨rfl, _, ?_, rfl⟩; rfl) | exact rfl | exact .inl rfl | exact .inr ⟨rfl, rfl, rfl, rfl⟩ | exact Nat.zero_le _ | constructor)
        · conv => whnf
          refine ⟨by decide, ?_⟩
          conv => whnf
          refine ⟨?_, trivial⟩
          · conv => whnf
            refine ⟨by decide, ?_⟩
            conv => whnf
            refine ⟨?_, trivial⟩
            · conv => whnf
              refine ⟨Nat, octE, rowT p, by rw [← ha1, List.map_append]; rfl, fun _ => rfl, hr1, hr2, rfl, ?_⟩
              conv => whnf
              refine ⟨?_, trivial⟩
              · conv => whnf
                refine CallVC.look h2 rfl ?_
                rintro _ rfl
                conv => whnf
                refine ⟨?_, trivial⟩
                · conv => whnf
                  refine ⟨(), [], [], ?_⟩
                  repeat' (first | exact trivial | exact .inl (DLe.refl _) | exact .inl (DLe.nil _ _) | (refine .inr ⟨rfl, _, ?_, rfl⟩; rfl) | exact rfl | exact .inl rfl | exact .inr ⟨rfl, rfl, rfl, rfl⟩ | exact Nat.zero_le _ | constructor)
    · conv => whnf
      refine ⟨?_, ?_, trivial⟩
      · conv => whnf
        refine ⟨by decide, ?_⟩
        conv => whnf
        refine ⟨?_, ?_, trivial⟩
        · conv => whnf
          refine ⟨Nat, octE, rowT p, by rw [← ha1, List.map_append]; rfl, fun _ => rfl, hr1, hr2, rfl, ?_⟩
          conv => whnf
          refine ⟨?_, trivial⟩
          · conv => whnf
            refine ⟨?_, trivial⟩
            · conv => whnf
              refine ⟨by decide, ?_⟩
              conv => whnf
              refine ⟨?_, trivial⟩
              · conv => whnf
                refine CallVC.look h2 rfl ?_
                rintro _ rfl
                conv => whnf
                refine ⟨?_, trivial⟩
                · conv => whnf
                  refine ⟨(), [], [], ?_⟩
                  repeat' (first | exact trivial | exact .inl (DLe.refl _) | exact .inl (DLe.nil _ _) | (refine .inr ⟨rfl, _, ?_, rfl⟩; rfl) | exact rfl | exact .inl rfl | exact .inr ⟨rfl, rfl, rfl, rfl⟩ | exact Nat.zero_le _ | constructor)
        · conv => whnf
          refine ⟨?_, ?_, trivial⟩
          · conv => whnf
            refine ⟨Nat, octE, rowT p, by rw [← ha1, List.map_append]; rfl, fun _ => rfl, hr1, hr2, rfl, ?_⟩
            conv => whnf
            refine ⟨?_, trivial⟩
            · conv => whnf
              refine ⟨by decide, ?_⟩
              conv => whnf
              refine ⟨?_, trivial⟩
              · conv => whnf
                refine CallVC.look h2 rfl ?_
                rintro _ rfl
                conv => whnf
                refine ⟨?_, trivial⟩
                · conv => whnf
                  refine ⟨(), [], [], ?_⟩
                  repeat' (first | exact trivial | exact .inl (DLe.refl _) | exact .inl (DLe.nil _ _) | (refine .inr ⟨rfl, _, ?_, rfl⟩; rfl) | exact rfl | exact .inl rfl | exact .inr ⟨rfl, rfl, rfl, rfl⟩ | exact Nat.zero_le _ | constructor)
          · conv => whnf
            refine ⟨by decide, ?_⟩
            conv => whnf
            refine ⟨?_, trivial⟩
            · conv => whnf
              refine ⟨Nat, octE, rowT p, by rw [← ha1, List.map_append]; rfl, fun _ => rfl, hr1, hr2, rfl, ?_⟩
              conv => whnf
              refine ⟨?_, trivial⟩
              · conv => whnf
                refine CallVC.look h2 rfl ?_
                rintro _ rfl
                conv => whnf
                refine ⟨?_, trivial⟩
                · conv => whnf
                  refine ⟨(), [], [], ?_⟩
                  repeat' (first | exact trivial | exact .inl (DLe.refl _) | exact .inl (DLe.nil _ _) | (refine .inr ⟨rfl, _, ?_, rfl⟩; rfl) | exact rfl | exact .inl rfl | exact .inr ⟨rfl, rfl, rfl, rfl⟩ | exact Nat.zero_le _ | constructor)
      · conv => whnf
        refine ⟨?_, ?_, trivial⟩
        · conv => whnf
          refine ⟨by decide, ?_⟩
          conv => whnf
          refine ⟨?_, ?_, trivial⟩
          · conv => whnf
            refine ⟨Nat, octE, rowT p, by rw [← ha1, List.map_append]; rfl, fun _ => rfl, hr1, hr2, rfl, ?_⟩
            conv => whnf
            refine ⟨?_, trivial⟩
            · conv => whnf
              refine ⟨by decide, ?_⟩
              conv => whnf
              refine ⟨?_, trivial⟩
              · conv => whnf
                refine CallVC.look h2 rfl ?_
                rintro _ rfl
                conv => whnf
                refine ⟨?_, trivial⟩
                · conv => whnf
                  refine ⟨(), [], [], ?_⟩
                  repeat' (first | exact trivial | exact .inl (DLe.refl _) | exact .inl (DLe.nil _ _) | (refine .inr ⟨rfl, _, ?_, rfl⟩; rfl) | exact rfl | exact .inl rfl | exact .inr ⟨rfl, rfl, rfl, rfl⟩ | exact Nat.zero_le _ | constructor)
          · conv => whnf
            refine ⟨by decide, ?_⟩
            conv => whnf
            refine ⟨?_, trivial⟩
            · conv => whnf
              refine ⟨Nat, octE, rowT p, by rw [← ha1, List.map_append]; rfl, fun _ => rfl, hr1, hr2, rfl, ?_⟩
              conv => whnf
              refine ⟨?_, trivial⟩
              · conv => whnf
                refine CallVC.look h2 rfl ?_
                rintro _ rfl
                conv => whnf
                refine ⟨?_, trivial⟩
                · conv => whnf
                  refine ⟨(), [], [], ?_⟩
                  repeat' (first | exact trivial | exact .inl (DLe.refl _) | exact .inl (DLe.nil _ _) | (refine .inr ⟨rfl, _, ?_, rfl⟩; rfl) | exact rfl | exact .inl rfl | exact .inr ⟨rfl, rfl, rfl, rfl⟩ | exact Nat.zero_le _ | constructor)
        · conv => whnf
          refine ⟨by decide, ?_⟩
          conv => whnf
          refine ⟨?_, trivial⟩
          · conv => whnf
            refine ⟨by decide, ?_⟩
            conv => whnf
            refine ⟨?_, trivial⟩
            · conv => whnf
              refine ⟨Nat, octE, rowT p, by rw [← ha1, List.map_append]; rfl, fun _ => rfl, hr1, hr2, rfl, ?_⟩
              conv => whnf
              refine ⟨?_, trivial⟩
              · conv => whnf
                refine CallVC.look h2 rfl ?_
                rintro _ rfl
                conv => whnf
                refine ⟨?_, trivial⟩
                · conv => whnf
                  refine ⟨(), [], [], ?_⟩
                  repeat' (first | exact trivial | exact .inl (DLe.refl _) | exact .inl (DLe.nil _ _) | (refine .inr ⟨rfl, _, ?_, rfl⟩; rfl) | exact rfl | exact .inl rfl | exact .inr ⟨rfl, rfl, rfl, rfl⟩ | exact Nat.zero_le _ | constructor)
  conv => whnf
  refine ⟨by decide, ?_⟩
  conv => whnf
  refine CallVC.look h3 rfl ?_
  rintro _ rfl
  conv => whnf
  refine ⟨by decide, ?_⟩
  conv => whnf
  (refine CallVC.pure (h4) rfl ?_; rintro _ rfl; conv => whnf)
  (refine CallVC.pure (h5) rfl ?_; rintro _ rfl; conv => whnf)
  try rfl
end Go.Proofs.Ytfepckbhnghpeaa.V
namespace Go.Proofs.Ytfepckbhnghpeaa.V
open Go.RowKit
attribute [local irreducible] Fn FnN FnR OpVC DLe

/-! ### Packets within packets -/
abbrev octsR (r : List Nat × Int) : D := .tup [octR r.1, intD r.2]
theorem oct0_le {e : Int} : DLe (.tup [.v (.slice none 0 0), intD e]) (octsR ([], e)) := dleTup ⟨DLe.nil _ _, DLe.refl _, trivial⟩
end Go.Proofs.Ytfepckbhnghpeaa.V
namespace Go.Proofs.Ytfepckbhnghpeaa.V
open Go.RowKit
attribute [local irreducible] Fn FnN FnR OpVC DLe

def ipB (p : Pkt) : List Nat × Int := match mayP p with
  | true => (putP p, 0)
  | false => ([], 2)
theorem mayP_of {p : Pkt} (h : mayP p = true) : p.opts.length ≤ 40 ∧ p.opts.length % 4 = 0 ∧ p.off < 8192 := by
  unfold mayP at h
  cases h1 : decide (40 < p.opts.length) with
  | true => rw [h1] at h; cases h
  | false =>
    rw [h1] at h
    dsimp only at h
    cases h2 : decide (p.opts.length % 4 = 0) with
    | false => rw [h2] at h; cases h
    | true =>
      rw [h2] at h
      exact ⟨by have := of_decide_eq_false h1; omega, of_decide_eq_true h2, of_decide_eq_true h⟩
theorem headP_len (p : Pkt) (s : Nat) : (headP p s).length = 20 + p.opts.length := by
  unfold headP
  rw [List.length_append, List.length_append, List.length_append]
  show 12 + (4 + 4 + p.opts.length) = _
  omega
set_option maxHeartbeats 1000000 in
theorem ipPut_fn (p : Pkt) (h : p.ok) (ho : p.opts.length ≤ 1000) (hd : p.data.length ≤ 50000) : Fn Try.prog 24 [.agg (pktD p)] fun d => d = octsR (ipB p) := by
  refine FnX (fnOf [(4, [0, 2, 3, 1, 4, 5, 6, 7])] Try.func24 rfl (by kernel_rfl) (Nat.le_of_ble_eq_true rfl) ?_)
  have hc := ipCheck_fn p (by omega) hd
  unfold ipB
  cases hm : mayP p with
  | false =>
    rw [hm] at hc
    conv => whnf
    (refine CallVC.pure (hc) rfl ?_; rintro _ rfl; conv => whnf)
    exact oct0_le
  | true =>
    rw [hm] at hc
    obtain ⟨m1, m2, m3⟩ := mayP_of hm
    have ht := ipTop_fn p h m1 m3 hd
    have hj := (joinN2_fn (headP p (65535 - onesL (headP p 0))) p.data (by rw [headP_len]; omega) (by omega)).fn
    conv => whnf
    (refine CallVC.pure (hc) rfl ?_; rintro _ rfl; conv => whnf)
    (refine CallVC.pure (ht) rfl ?_; rintro _ rfl; conv => whnf)
    refine ⟨by decide, ?_⟩
    conv => whnf
    (refine CallVC.pure (hj) rfl ?_; rintro _ rfl; conv => whnf)
    exact DLe.refl _

/-! ### The document's -/
set_option maxRecDepth 200000 in
set_option maxHeartbeats 1000000 in
theorem rMay_fn (p : Pkt) (hl : p.opts.length ≤ 10000) (hd : p.data.length ≤ 50000) : Fn Try.prog 39 [.agg (pktD p)] fun d => d = boolD (mayP p) := by
  refine fnOf [] Try.func39 rfl (by kernel_rfl) (Nat.le_of_ble_eq_true rfl) ?_
  have em : (p.opts.length : Int).tmod 4 = ((p.opts.length % 4 : Nat) : Int) := by rw [Int.tmod_eq_emod_of_nonneg (by omega)]; omega
  have e1 : IntKind.i64.wrap (65515 - (p.opts.length : Int)) = ((65515 - p.opts.length : Nat) : Int) := by rw [IntWalk.i64_in _ (by omega)]; omega
  unfold mayP
  conv => whnf
  refine Fork.intro (fun q1 => ?_) (fun q1 => ?_)
  rotate_left
  · rw [decide_eq_true (show 40 < p.opts.length by have := of_decide_eq_false q1; omega)]
    conv => whnf
    try rfl
  rw [decide_eq_false (show ¬ 40 < p.opts.length by have := of_decide_eq_true q1; omega)]
  conv => whnf
  refine ⟨by decide, ?_⟩
  conv => whnf
  rw [em]
  refine Fork.intro (fun q2 => ?_) (fun q2 => ?_)
  rotate_left
  · rw [decide_eq_false (show ¬ p.opts.length % 4 = 0 by intro h; rw [h] at q2; exact absurd q2 (by decide))]
    conv => whnf
    try rfl
  rw [decide_eq_true (show p.opts.length % 4 = 0 by have := of_decide_eq_true q2; omega)]
  conv => whnf
  refine Fork.intro (fun q3 => ?_) (fun q3 => ?_)
  rotate_left
  · rw [decide_eq_false (show ¬ p.off < 8192 by have := of_decide_eq_false q3; omega)]
    conv => whnf
    try rfl
  rw [decide_eq_true (show p.off < 8192 by have := of_decide_eq_true q3; omega)]
  conv => whnf
  rw [e1, decide_eq_true (show (p.data.length : Int) ≤ ((65515 - p.opts.length : Nat) : Int) by have := of_decide_eq_true q1; omega)]
theorem rOf_fn (l : List Nat) (hl : Byt l) (hlen : l.length ≤ 1000000) : Fn Try.prog 42 [octR l] fun d => d = intD (65535 - onesL l : Nat) := by
  refine fnOf [] Try.func42 rfl (by kernel_rfl) (Nat.le_of_ble_eq_true rfl) ?_
  have ho := rOnes_fn l hl hlen
  have hlt := onesL_lt l
  have e : IntKind.i64.wrap (65535 - (onesL l : Int)) = ((65535 - onesL l : Nat) : Int) := by rw [IntWalk.i64_in _ (by omega)]; omega
  conv => whnf
  (refine CallVC.pure (ho) rfl ?_; rintro _ rfl; conv => whnf)
  rw [e]
theorem hi8 (n : Nat) (h : n < 65536) : IntKind.u8.wrap (IntKind.i64.wrap ((n : Int).tdiv 256)) = ((n / 256 % 256 : Nat) : Int) := by
  rw [Int.tdiv_eq_ediv_of_nonneg (by omega), IntWalk.i64_in _ (by omega), u8_small (by omega)]; omega
theorem hi16 (n : Nat) (h : n < 65536) : IntKind.u8.wrap (IntKind.u16.wrap ((n : Int).tdiv 256)) = ((n / 256 % 256 : Nat) : Int) := by
  rw [Int.tdiv_eq_ediv_of_nonneg (by omega), u16_wrap, u8_small (by omega)]; omega
theorem lo8 (n : Nat) (h : n < 65536) : IntKind.u8.wrap ((n : Int).tmod 256) = ((n % 256 : Nat) : Int) := by
  rw [Int.tmod_eq_emod_of_nonneg (by omega), u8_small (by omega)]; omega
set_option maxRecDepth 10000 in
set_option maxHeartbeats 4000000 in
theorem rHeadP_fn (p : Pkt) (h : p.ok) (s : Nat) (hs : s < 65536) (ho : p.opts.length ≤ 40) (hf : p.off < 8192) (hd : p.data.length ≤ 50000) : Fn Try.prog 41 [.agg (pktD p), intD s] fun d => d = octR (headP p s) := by
  refine fnOf [(9, [0, 1, 2, 4, 5, 9, 10, 3, 6, 7, 8, 11, 12])] Try.func41 rfl (by kernel_rfl) (Nat.le_of_ble_eq_true rfl) ?_
  have hid := h.id
  have hwd : wordP p < 65536 := by unfold wordP; split <;> split <;> omega
  have p1 := rPut_fn p.src 4 h.src (by decide)
  have p2 := rPut_fn p.dst 4 h.dst (by decide)
  rw [bigL_four] at p1 p2
  have a1 := rAdd_fn (b4 p.src) (b4 p.dst) (by simp [b4]) (by simp [b4])
  have e20 : IntKind.i64.wrap (20 + (p.opts.length : Int)) = ((20 + p.opts.length : Nat) : Int) := by rw [IntWalk.i64_in _ (by omega)]; omega
  have eall : IntKind.i64.wrap (((20 + p.opts.length : Nat) : Int) + (p.data.length : Int)) = ((20 + p.opts.length + p.data.length : Nat) : Int) := by rw [IntWalk.i64_in _ (by omega)]; omega
  have c1 : IntKind.u8.wrap (IntKind.i64.wrap (64 + IntKind.i64.wrap (((20 + p.opts.length : Nat) : Int).tdiv 4))) = ((64 + (20 + p.opts.length) / 4 : Nat) : Int) := by
    rw [Int.tdiv_eq_ediv_of_nonneg (by omega), IntWalk.i64_in (((20 + p.opts.length : Nat) : Int) / 4) (by omega), IntWalk.i64_in _ (by omega), u8_small (by omega)]; omega
  have ew : IntKind.i64.wrap (p.off : Int) = (p.off : Int) := IntWalk.i64_in _ (by omega)
  have g1 := hi8 (20 + p.opts.length + p.data.length) (by omega)
  have g2 := lo8 (20 + p.opts.length + p.data.length) (by omega)
  have g3 := hi16 p.id hid
  have g4 := lo8 p.id hid
  have g5 := hi8 (wordP p) hwd
  have g6 := lo8 (wordP p) hwd
  have g7 := hi8 s hs
  have g8 := lo8 s hs
  obtain ⟨r12, hr12⟩ : ∃ r12, r12 = [64 + (20 + p.opts.length) / 4, p.tos, (20 + p.opts.length + p.data.length) / 256 % 256, (20 + p.opts.length + p.data.length) % 256, p.id / 256 % 256, p.id % 256, wordP p / 256 % 256, wordP p % 256, p.ttl, p.proto, s / 256 % 256, s % 256] := ⟨_, rfl⟩
  have a2 := rAdd_fn r12 (b4 p.src ++ b4 p.dst) (by rw [hr12]; show 12 ≤ 1000000; decide) (by simp [b4])
  have a2' : Fn Try.prog 40 [.lit 1 (r12.map octE), octR (b4 p.src ++ b4 p.dst)] fun d => d = octR (r12 ++ (b4 p.src ++ b4 p.dst)) :=
    FnLe a2 fun C vs hr => reps_one (l := []) (r := [octR (b4 p.src ++ b4 p.dst)]) (dleLit octE_flat) hr
  have a3 := rAdd_fn (r12 ++ (b4 p.src ++ b4 p.dst)) p.opts (by rw [List.length_append, hr12]; show 12 + 8 ≤ 1000000; decide) (by omega)
  rw [show r12 ++ (b4 p.src ++ b4 p.dst) ++ p.opts = headP p s by rw [hr12]; unfold headP; simp only [List.append_assoc]] at a3
  rw [hr12] at a2' a3
  cases hdf : p.df <;> cases hmf : p.mf
  · have hx : IntKind.i64.wrap (p.off : Int) = ((wordP p : Nat) : Int) := by
      have hw : wordP p = p.off := by unfold wordP; rw [hdf, hmf]; rfl
      rw [hw, IntWalk.i64_in _ (by omega)]
    conv => whnf
    rw [hdf]
    conv => whnf
    rw [hmf]
    conv => whnf
    refine ⟨by decide, ?_⟩
    conv => whnf
    refine ⟨by decide, ?_⟩
    conv => whnf
    refine ⟨by decide, ?_⟩
    conv => whnf
    refine ⟨by decide, ?_⟩
    conv => whnf
    refine ⟨by decide, ?_⟩
    conv => whnf
    refine ⟨by decide, ?_⟩
    conv => whnf
    refine ⟨by decide, ?_⟩
    conv => whnf
    refine ⟨by decide, ?_⟩
    conv => whnf
    refine ⟨by decide, ?_⟩
    conv => whnf
    refine ⟨by decide, ?_⟩
    conv => whnf
    rw [e20, eall, c1, g1, g2, g3, g4, hx, g5, g6, g7, g8]
    (refine CallVC.pure (p1) rfl ?_; rintro _ rfl; conv => whnf)
    (refine CallVC.pure (p2) rfl ?_; rintro _ rfl; conv => whnf)
    (refine CallVC.pure (a1) rfl ?_; rintro _ rfl; conv => whnf)
    (refine CallVC.pure (a2') rfl ?_; rintro _ rfl; conv => whnf)
    (refine CallVC.pure (a3) rfl ?_; rintro _ rfl; conv => whnf)
  · have hx : IntKind.i64.wrap (IntKind.i64.wrap (p.off : Int) + 8192) = ((wordP p : Nat) : Int) := by
      have hw : wordP p = p.off + 8192 := by unfold wordP; rw [hdf, hmf]; rfl
      rw [hw, ew, IntWalk.i64_in _ (by omega)]
      omega
    conv => whnf
    rw [hdf]
    conv => whnf
    rw [hmf]
    conv => whnf
    refine ⟨by decide, ?_⟩
    conv => whnf
    refine ⟨by decide, ?_⟩
    conv => whnf
    refine ⟨by decide, ?_⟩
    conv => whnf
    refine ⟨by decide, ?_⟩
    conv => whnf
    refine ⟨by decide, ?_⟩
    conv => whnf
    refine ⟨by decide, ?_⟩
    conv => whnf
    refine ⟨by decide, ?_⟩
    conv => whnf
    refine ⟨by decide, ?_⟩
    conv => whnf
    refine ⟨by decide, ?_⟩
    conv => whnf
    refine ⟨by decide, ?_⟩
    conv => whnf
    rw [e20, eall, c1, g1, g2, g3, g4, hx, g5, g6, g7, g8]
    (refine CallVC.pure (p1) rfl ?_; rintro _ rfl; conv => whnf)
    (refine CallVC.pure (p2) rfl ?_; rintro _ rfl; conv => whnf)
    (refine CallVC.pure (a1) rfl ?_; rintro _ rfl; conv => whnf)
    (refine CallVC.pure (a2') rfl ?_; rintro _ rfl; conv => whnf)
    (refine CallVC.pure (a3) rfl ?_; rintro _ rfl; conv => whnf)
  · have hx : IntKind.i64.wrap (IntKind.i64.wrap (p.off : Int) + 16384) = ((wordP p : Nat) : Int) := by
      have hw : wordP p = p.off + 16384 := by unfold wordP; rw [hdf, hmf]; rfl
      rw [hw, ew, IntWalk.i64_in _ (by omega)]
      omega
    conv => whnf
    rw [hdf]
    conv => whnf
    rw [hmf]
    conv => whnf
    refine ⟨by decide, ?_⟩
    conv => whnf
    refine ⟨by decide, ?_⟩
    conv => whnf
    refine ⟨by decide, ?_⟩
    conv => whnf
    refine ⟨by decide, ?_⟩
    conv => whnf
    refine ⟨by decide, ?_⟩
    conv => whnf
    refine ⟨by decide, ?_⟩
    conv => whnf
    refine ⟨by decide, ?_⟩
    conv => whnf
    refine ⟨by decide, ?_⟩
    conv => whnf
    refine ⟨by decide, ?_⟩
    conv => whnf
    refine ⟨by decide, ?_⟩
    conv => whnf
    rw [e20, eall, c1, g1, g2, g3, g4, hx, g5, g6, g7, g8]
    (refine CallVC.pure (p1) rfl ?_; rintro _ rfl; conv => whnf)
    (refine CallVC.pure (p2) rfl ?_; rintro _ rfl; conv => whnf)
    (refine CallVC.pure (a1) rfl ?_; rintro _ rfl; conv => whnf)
    (refine CallVC.pure (a2') rfl ?_; rintro _ rfl; conv => whnf)
    (refine CallVC.pure (a3) rfl ?_; rintro _ rfl; conv => whnf)
  · have hx : IntKind.i64.wrap (IntKind.i64.wrap (IntKind.i64.wrap (p.off : Int) + 16384) + 8192) = ((wordP p : Nat) : Int) := by
      have hw : wordP p = p.off + 16384 + 8192 := by unfold wordP; rw [hdf, hmf]
      rw [hw, ew, IntWalk.i64_in ((p.off : Int) + 16384) (by omega), IntWalk.i64_in _ (by omega)]
      omega
    conv => whnf
    rw [hdf]
    conv => whnf
    rw [hmf]
    conv => whnf
    refine ⟨by decide, ?_⟩
    conv => whnf
    refine ⟨by decide, ?_⟩
    conv => whnf
    refine ⟨by decide, ?_⟩
    conv => whnf
    refine ⟨by decide, ?_⟩
    conv => whnf
    refine ⟨by decide, ?_⟩
    conv => whnf
    refine ⟨by decide, ?_⟩
    conv => whnf
    refine ⟨by decide, ?_⟩
    conv => whnf
    refine ⟨by decide, ?_⟩
    conv => whnf
    refine ⟨by decide, ?_⟩
    conv => whnf
    refine ⟨by decide, ?_⟩
    conv => whnf
    rw [e20, eall, c1, g1, g2, g3, g4, hx, g5, g6, g7, g8]
    (refine CallVC.pure (p1) rfl ?_; rintro _ rfl; conv => whnf)
    (refine CallVC.pure (p2) rfl ?_; rintro _ rfl; conv => whnf)
    (refine CallVC.pure (a1) rfl ?_; rintro _ rfl; conv => whnf)
    (refine CallVC.pure (a2') rfl ?_; rintro _ rfl; conv => whnf)
    (refine CallVC.pure (a3) rfl ?_; rintro _ rfl; conv => whnf)
set_option maxHeartbeats 1000000 in
theorem rPutP_fn (p : Pkt) (h : p.ok) (ho : p.opts.length ≤ 1000) (hd : p.data.length ≤ 50000) : Fn Try.prog 12 [.agg (pktD p)] fun d => d = octsR (ipB p) := by
  refine FnX (fnOf [(3, [0, 1, 5, 6, 2, 3, 4, 7, 8, 9])] Try.func12 rfl (by kernel_rfl) (Nat.le_of_ble_eq_true rfl) ?_)
  have hc := rMay_fn p (by omega) hd
  unfold ipB
  cases hm : mayP p with
  | false =>
    rw [hm] at hc
    conv => whnf
    (refine CallVC.pure (hc) rfl ?_; rintro _ rfl; conv => whnf)
    exact oct0_le
  | true =>
    rw [hm] at hc
    obtain ⟨m1, m2, m3⟩ := mayP_of hm
    have h0 := rHeadP_fn p h 0 (by decide) m1 m3 hd
    have h1 := rOf_fn (headP p 0) (headP_byt h m1 0) (by rw [headP_len]; omega)
    have h2 := rHeadP_fn p h (65535 - onesL (headP p 0)) (by omega) m1 m3 hd
    have h3 := rAdd_fn (headP p (65535 - onesL (headP p 0))) p.data (by rw [headP_len]; omega) (by omega)
    conv => whnf
    (refine CallVC.pure (hc) rfl ?_; rintro _ rfl; conv => whnf)
    (refine CallVC.pure (h0) rfl ?_; rintro _ rfl; conv => whnf)
    (refine CallVC.pure (h1) rfl ?_; rintro _ rfl; conv => whnf)
    (refine CallVC.pure (h2) rfl ?_; rintro _ rfl; conv => whnf)
    (refine CallVC.pure (h3) rfl ?_; rintro _ rfl; conv => whnf)
    exact DLe.refl _
end Go.Proofs.Ytfepckbhnghpeaa.V
