/-
  What a frame is, in words: the program's line begins so, by value. Conditions: bytes, not too many; numbers of their types.
  What a packet, a frame is, in words: the program's line begins so, by value. Conditions: bytes, not too many; numbers of their types.
  What a frame is: the program's second word, by value. Conditions: bytes, not too many; numbers of their types.
-/
import Derived.Test.YtgodclgcfpmloaaGreatDoorTraK
import Derived.Test.YtgodclgcfpmloaaGreatDoorK8
import Derived.Test.YtgodclgcfpmloaaGreatDoorK9
namespace Go.Proofs.YtgodclgcfpmloaaGreatDoor.V
open Go.RowKit
attribute [local irreducible] Fn FnN FnR OpVC DLe

def wIcmp : List Nat := [105, 99, 109, 112]
def wUdp : List Nat := [117, 100, 112]
def wTcp : List Nat := [116, 99, 112]
def wIp : List Nat := [105, 112]
def wIpip : List Nat := [105, 112, 105, 112]
def wArp : List Nat := [97, 114, 112]
def wRaw : List Nat := [114, 97, 119]
def kindB : Body → List Nat
  | .icm _ => wIcmp
  | .dgm _ => wUdp
  | .seg _ => wTcp
  | .none => wIp
def kindPl (p : Pkt) : List Nat := kindB (bodyOf p).1
def borneP (p : Pkt) : Pkt × Bool := match decide ((openP p).2 = 0) with
  | false => (pkt0, false)
  | true => ((parseP (openP p).1).1, decide ((parseP (openP p).1).2 = 0))
def kindPk (p : Pkt) : List Nat := match (borneP p).2 with
  | true => wIpip
  | false => kindPl p
def kindFr (b : List Nat) : List Nat :=
  match decide ((parseE b).2 = 0) && decide ((parseE b).1.type = 2054) && decide ((parseA (parseE b).1.data).2 = 0) with
  | true => wArp
  | false => match decide ((parseE b).2 = 0) && decide ((parseE b).1.type = 2048) && decide ((parseP (parseE b).1.data).2 = 0) with
    | true => kindPk (parseP (parseE b).1.data).1
    | false => wRaw
def starts (w : List Nat) (k : Nat) (d : D) : Prop := ∃ r, d = strD (w ++ 32 :: r) ∧ Byt r ∧ r.length ≤ k
theorem join_cons (a b : List Nat) (r : List (List Nat)) : joinN [32] (a :: b :: r) = a ++ 32 :: joinN [32] (b :: r) := by
  simp [joinN, List.intercalate]
theorem join_byt : ∀ (L : List (List Nat)), (∀ x, x ∈ L → Byt x) → Byt (joinN [32] L)
  | [], _ => .nil
  | [a], h => by
    have : joinN [32] [a] = a := by simp [joinN, List.intercalate]
    rw [this]; exact h a (by simp)
  | a :: b :: r, h => by
    rw [join_cons]
    exact (h a (by simp)).append (.cons (by decide) (join_byt (b :: r) fun x hx => h x (List.mem_cons_of_mem _ hx)))
theorem join_lenM (m : Nat) : ∀ (L : List (List Nat)), (∀ x, x ∈ L → x.length ≤ m) → (joinN [32] L).length ≤ L.length * (m + 1)
  | [], _ => Nat.zero_le _
  | [a], h => by
    have : joinN [32] [a] = a := by simp [joinN, List.intercalate]
    have := h a (by simp)
    rw [‹joinN [32] [a] = a›, List.length_singleton]; omega
  | a :: b :: r, h => by
    have h1 := join_lenM m (b :: r) fun x hx => h x (List.mem_cons_of_mem _ hx)
    have h2 := h a (by simp)
    rw [join_cons, List.length_append, List.length_cons, List.length_cons, Nat.succ_mul]
    omega
theorem words_starts (w : List Nat) (b : List Nat) (r : List (List Nat)) (m : Nat) (hw : Byt w ∧ w.length ≤ 10) (hL : ∀ x, x ∈ b :: r → Byt x ∧ x.length ≤ m) (hl : r.length ≤ 10) (hm : m ≤ 10000) : Fn Tryz.prog 14 [.lit 1 ((w :: b :: r).map strE)] (starts w (11 * (m + 1))) := by
  have h1 := join_byt (b :: r) fun x hx => (hL x hx).1
  have h2 := join_lenM m (b :: r) fun x hx => (hL x hx).2
  have h3 : (b :: r).length * (m + 1) ≤ 11 * (m + 1) := Nat.mul_le_mul_right _ (by rw [List.length_cons]; omega)
  refine (words_fn (w :: b :: r) (fun x hx => ?_) (by simp; omega) ?_).mono fun d hd => ?_
  · rcases List.mem_cons.1 hx with rfl | hx
    · exact hw.1
    · exact (hL x hx).1
  · rw [join_cons, List.length_append, List.length_cons]; omega
  · rw [join_cons] at hd
    exact ⟨_, hd, h1, by omega⟩
theorem addrT_fn (a : Nat) (h : a < 4294967296) : Fn Tryz.prog 89 [u32D a] (someT 15) := (text_fn join_c a h).mono fun d hd => ⟨_, hd, txt_byt a, txt_len a⟩
theorem endT_fn (a p : Nat) (h : a < 4294967296) (hp : p < 65536) : Fn Tryz.prog 113 [u32D a, u16D p] (someT 30) := by
  refine fnOf [] Tryz.func113 rfl (by kernel_rfl) (Nat.le_of_ble_eq_true rfl) ?_
  have ha := addrT_fn a h
  have hd := digitsT_some p (by omega)
  have e : IntKind.u32.wrap (p : Int) = (p : Int) := u32_small (by omega)
  conv => whnf
  refine CallVC.pure ha rfl ?_
  rintro _ ⟨l, rfl, l1, l2⟩
  conv => whnf
  refine ⟨str_le (b := [58]) (by simp; omega), ?_⟩
  rw [show (⟨#[58]⟩ : ByteArray) = strB [58] from rfl, strB_append]
  conv => whnf
  rw [e]
  refine CallVC.pure hd rfl ?_
  rintro _ ⟨m, rfl, m1, m2⟩
  conv => whnf
  refine ⟨str_le (by simp; omega), ?_⟩
  rw [strB_append]
  conv => whnf
  exact ⟨_, rfl, (l1.append (.cons (by decide) .nil)).append m1, by simp; omega⟩
end Go.Proofs.YtgodclgcfpmloaaGreatDoor.V
namespace Go.Proofs.YtgodclgcfpmloaaGreatDoor.V
open Go.RowKit
attribute [local irreducible] Fn FnN FnR OpVC DLe

theorem word_ok : (Byt wIcmp ∧ wIcmp.length ≤ 10) ∧ (Byt wUdp ∧ wUdp.length ≤ 10) ∧ (Byt wTcp ∧ wTcp.length ≤ 10) ∧ (Byt wIp ∧ wIp.length ≤ 10) ∧ (Byt wIpip ∧ wIpip.length ≤ 10) ∧ (Byt wArp ∧ wArp.length ≤ 10) ∧ (Byt wRaw ∧ wRaw.length ≤ 10) :=
  ⟨⟨byt_of rfl, by decide⟩, ⟨byt_of rfl, by decide⟩, ⟨byt_of rfl, by decide⟩, ⟨byt_of rfl, by decide⟩, ⟨byt_of rfl, by decide⟩, ⟨byt_of rfl, by decide⟩, ⟨byt_of rfl, by decide⟩⟩
theorem kindB_ok (b : Body) : Byt (kindB b) ∧ (kindB b).length ≤ 10 := by
  obtain ⟨h1, h2, h3, h4, _⟩ := word_ok
  cases b
  · exact h4
  · exact h1
  · exact h2
  · exact h3
theorem icm_lt (b : List Nat) (hb : Byt b) : (parseI b).1.type < 256 ∧ (parseI b).1.code < 256 := by
  have h0 := getD_lt hb 0
  have h1 := getD_lt hb 1
  unfold parseI
  repeat' split
  all_goals first | exact ⟨by decide, by decide⟩ | exact ⟨h0, h1⟩
theorem seg_more (src dst : Nat) (b : List Nat) (_ : Byt b) : (parseT src dst b).1.seq < 4294967296 ∧ (parseT src dst b).1.ack < 4294967296 ∧ (parseT src dst b).1.data.length ≤ b.length := by
  have h0 := get32_lt b 4
  have h1 := get32_lt b 8
  have h2 := cutP_len b (offT b) (b.length - offT b)
  unfold parseT
  repeat' split
  all_goals first | exact ⟨by decide, by decide, Nat.zero_le _⟩ | exact ⟨h0, h1, h2⟩
theorem dgm_more (src dst : Nat) (b : List Nat) : (parseU src dst b).1.data.length ≤ b.length := by
  have h2 := cutP_len (b.take (get16 b 4)) 8 (get16 b 4 - 8)
  rw [List.length_take] at h2
  unfold parseU
  repeat' split
  all_goals first | exact Nat.zero_le _ | exact Nat.le_trans h2 (Nat.min_le_right _ _)
def Body.small (n : Nat) : Body → Prop
  | .icm x => x.type < 256 ∧ x.code < 256
  | .dgm x => x.src < 65536 ∧ x.dst < 65536 ∧ x.data.length ≤ n
  | .seg x => x.src < 65536 ∧ x.dst < 65536 ∧ x.flags < 256 ∧ x.seq < 4294967296 ∧ x.ack < 4294967296 ∧ x.data.length ≤ n
  | .none => True
theorem bodyOf_small (p : Pkt) (h : p.ok) : (bodyOf p).1.small p.data.length := by
  have h1 := icm_lt p.data h.data
  obtain ⟨a1, a2⟩ := dgm_lt p.src p.dst p.data
  have a3 := dgm_more p.src p.dst p.data
  obtain ⟨b1, b2, b3⟩ := seg_lt p.src p.dst p.data h.data
  obtain ⟨b4, b5, b6⟩ := seg_more p.src p.dst p.data h.data
  unfold bodyOf bodyI bodyU bodyT
  repeat' split
  all_goals first | exact h1 | exact ⟨a1, a2, a3⟩ | exact ⟨b1, b2, b3, b4, b5, b6⟩ | trivial
set_option maxHeartbeats 4000000 in
theorem plainT_fn (p : Pkt) (h : p.ok) (hl : p.data.length ≤ 100000) : Fn Tryz.prog 93 [.agg (pktD p)] (starts (kindPl p) 561) := by
  refine fnOf [(1, [0, 1, 3, 4, 2, 5, 6, 7]), (6, [0, 1, 2, 3, 6, 7, 4, 8, 5, 9, 10, 11, 12]), (9, [0, 1, 2, 3, 5, 6, 7, 8, 10, 11, 4, 9, 12, 13, 14, 15]), (12, [0, 1, 2, 3, 5, 6, 7, 8, 10, 11, 13, 14, 16, 17, 19, 20, 4, 9, 12, 15, 18, 21, 22, 23, 24])] Tryz.func93 rfl (by kernel_rfl) (Nat.le_of_ble_eq_true rfl) ?_
  have hb := body_fn p h hl
  have hs := bodyOf_small p h
  have ht1 := addrT_fn p.src h.src
  have ht2 := addrT_fn p.dst h.dst
  obtain ⟨w1, w2, w3, w4, _⟩ := word_ok
  unfold kindPl
  generalize bodyOf p = R at *
  obtain ⟨B, e⟩ := R
  dsimp only at hb hs ⊢
  conv => whnf
  refine CallVC.pure ht1 rfl ?_
  rintro _ ⟨ts, rfl, ts1, ts2⟩
  conv => whnf
  refine CallVC.pure ht2 rfl ?_
  rintro _ ⟨td, rfl, td1, td2⟩
  conv => whnf
  (refine CallVC.pure (hb) rfl ?_; rintro _ rfl; conv => whnf)
  cases B with
  | none =>
    have hd := digitsT_some p.proto (by have := h.proto; omega)
    have ep : IntKind.u32.wrap (p.proto : Int) = (p.proto : Int) := u32_small (by have := h.proto; omega)
    conv => whnf
    refine op_assertNil (zv := #[.int .u8 0, .int .u8 0, .int .u32 0, .slice none 0 0]) ttH rfl rfl (by kernel_rfl) rfl ?_
    conv => whnf
    refine op_assertNil (zv := #[.int .u16 0, .int .u16 0, .bool false, .slice none 0 0]) ttH rfl rfl (by kernel_rfl) rfl ?_
    conv => whnf
    refine op_assertNil (zv := #[.int .u16 0, .int .u16 0, .int .u32 0, .int .u32 0, .int .u8 0, .int .u8 0, .int .u16 0, .int .u16 0, .slice none 0 0, .slice none 0 0]) ttH rfl rfl (by kernel_rfl) rfl ?_
    conv => whnf
    rw [ep]
    refine CallVC.pure hd rfl ?_
    rintro _ ⟨dg, rfl, dg1, dg2⟩
    conv => whnf
    have hm : ∀ x, x ∈ [ts, td, dg] → Byt x ∧ x.length ≤ 50 := by
      intro x hx
      simp only [List.mem_cons, List.not_mem_nil, or_false] at hx
      rcases hx with rfl | rfl | rfl
      · exact ⟨ts1, by omega⟩
      · exact ⟨td1, by omega⟩
      · exact ⟨dg1, by omega⟩
    have hw := words_starts wIp ts [td, dg] 50 w4 hm (Nat.le_of_ble_eq_true rfl) (by decide)
    (refine ⟨Nat.le_of_ble_eq_true rfl, ?_⟩; conv => whnf)
    refine CallVC.pure hw rfl ?_
    rintro _ ⟨r, rfl, r1, r2⟩
    conv => whnf
    exact ⟨r, rfl, r1, r2⟩
  | icm x =>
    obtain ⟨f1, f2⟩ := hs
    have hd1 := digitsT_some x.type (by omega)
    have hd2 := digitsT_some x.code (by omega)
    have e1 : IntKind.u32.wrap (x.type : Int) = (x.type : Int) := u32_small (by omega)
    have e2 : IntKind.u32.wrap (x.code : Int) = (x.code : Int) := u32_small (by omega)
    conv => whnf
    refine op_assertIs ttH rfl rfl rfl ?_
    conv => whnf
    rw [e1, e2]
    refine CallVC.pure hd1 rfl ?_
    rintro _ ⟨da, rfl, da1, da2⟩
    conv => whnf
    refine CallVC.pure hd2 rfl ?_
    rintro _ ⟨db, rfl, db1, db2⟩
    conv => whnf
    have hm : ∀ x, x ∈ [ts, td, da, db] → Byt x ∧ x.length ≤ 50 := by
      intro x hx
      simp only [List.mem_cons, List.not_mem_nil, or_false] at hx
      rcases hx with rfl | rfl | rfl | rfl
      · exact ⟨ts1, by omega⟩
      · exact ⟨td1, by omega⟩
      · exact ⟨da1, by omega⟩
      · exact ⟨db1, by omega⟩
    have hw := words_starts wIcmp ts [td, da, db] 50 w1 hm (Nat.le_of_ble_eq_true rfl) (by decide)
    (refine ⟨Nat.le_of_ble_eq_true rfl, ?_⟩; conv => whnf)
    refine CallVC.pure hw rfl ?_
    rintro _ ⟨r, rfl, r1, r2⟩
    conv => whnf
    exact ⟨r, rfl, r1, r2⟩
  | dgm x =>
    obtain ⟨f1, f2, f3⟩ := hs
    have hd1 := endT_fn p.src x.src h.src f1
    have hd2 := endT_fn p.dst x.dst h.dst f2
    have hd3 := many_fn x.data (by omega)
    conv => whnf
    refine op_assertNot (zv := #[.int .u8 0, .int .u8 0, .int .u32 0, .slice none 0 0]) ttH rfl rfl (by kernel_rfl) rfl (by decide) ?_
    conv => whnf
    refine op_assertIs ttH rfl rfl rfl ?_
    conv => whnf
    refine CallVC.pure hd1 rfl ?_
    rintro _ ⟨da, rfl, da1, da2⟩
    conv => whnf
    refine CallVC.pure hd2 rfl ?_
    rintro _ ⟨db, rfl, db1, db2⟩
    conv => whnf
    refine CallVC.pure hd3 rfl ?_
    rintro _ ⟨dc, rfl, dc1, dc2⟩
    conv => whnf
    have hm : ∀ x, x ∈ [da, db, dc] → Byt x ∧ x.length ≤ 50 := by
      intro x hx
      simp only [List.mem_cons, List.not_mem_nil, or_false] at hx
      rcases hx with rfl | rfl | rfl
      · exact ⟨da1, by omega⟩
      · exact ⟨db1, by omega⟩
      · exact ⟨dc1, by omega⟩
    have hw := words_starts wUdp da [db, dc] 50 w2 hm (Nat.le_of_ble_eq_true rfl) (by decide)
    (refine ⟨Nat.le_of_ble_eq_true rfl, ?_⟩; conv => whnf)
    refine CallVC.pure hw rfl ?_
    rintro _ ⟨r, rfl, r1, r2⟩
    conv => whnf
    exact ⟨r, rfl, r1, r2⟩
  | seg x =>
    obtain ⟨f1, f2, f3, f4, f5, f6⟩ := hs
    have hd1 := endT_fn p.src x.src h.src f1
    have hd2 := endT_fn p.dst x.dst h.dst f2
    have hd3 := flagsT_fn x.flags f3
    have hd4 := digitsT_some x.seq f4
    have hd5 := digitsT_some x.ack f5
    have hd6 := many_fn x.data (by omega)
    conv => whnf
    refine op_assertNot (zv := #[.int .u8 0, .int .u8 0, .int .u32 0, .slice none 0 0]) ttH rfl rfl (by kernel_rfl) rfl (by decide) ?_
    conv => whnf
    refine op_assertNot (zv := #[.int .u16 0, .int .u16 0, .bool false, .slice none 0 0]) ttH rfl rfl (by kernel_rfl) rfl (by decide) ?_
    conv => whnf
    refine op_assertIs ttH rfl rfl rfl ?_
    conv => whnf
    refine CallVC.pure hd1 rfl ?_
    rintro _ ⟨da, rfl, da1, da2⟩
    conv => whnf
    refine CallVC.pure hd2 rfl ?_
    rintro _ ⟨db, rfl, db1, db2⟩
    conv => whnf
    refine CallVC.pure hd3 rfl ?_
    rintro _ ⟨dc, rfl, dc1, dc2⟩
    conv => whnf
    refine CallVC.pure hd4 rfl ?_
    rintro _ ⟨de, rfl, de1, de2⟩
    conv => whnf
    refine CallVC.pure hd5 rfl ?_
    rintro _ ⟨df, rfl, df1, df2⟩
    conv => whnf
    refine CallVC.pure hd6 rfl ?_
    rintro _ ⟨dg, rfl, dg1, dg2⟩
    conv => whnf
    have hm : ∀ x, x ∈ [da, db, dc, de, df, dg] → Byt x ∧ x.length ≤ 50 := by
      intro x hx
      simp only [List.mem_cons, List.not_mem_nil, or_false] at hx
      rcases hx with rfl | rfl | rfl | rfl | rfl | rfl
      · exact ⟨da1, by omega⟩
      · exact ⟨db1, by omega⟩
      · exact ⟨dc1, by omega⟩
      · exact ⟨de1, by omega⟩
      · exact ⟨df1, by omega⟩
      · exact ⟨dg1, by omega⟩
    have hw := words_starts wTcp da [db, dc, de, df, dg] 50 w3 hm (Nat.le_of_ble_eq_true rfl) (by decide)
    (refine ⟨Nat.le_of_ble_eq_true rfl, ?_⟩; conv => whnf)
    refine CallVC.pure hw rfl ?_
    rintro _ ⟨r, rfl, r1, r2⟩
    conv => whnf
    exact ⟨r, rfl, r1, r2⟩

theorem borneP_ok (p : Pkt) (h : p.ok) : (borneP p).1.ok ∧ (borneP p).1.data.length ≤ p.data.length := by
  unfold borneP
  split
  · exact ⟨pkt0_ok, Nat.zero_le _⟩
  · have hb : Byt (openP p).1 ∧ (openP p).1.length ≤ p.data.length := by
      unfold openP
      split
      · exact ⟨.nil, Nat.zero_le _⟩
      · split
        · exact ⟨.nil, Nat.zero_le _⟩
        · exact ownP_byt h.data
    obtain ⟨h1, _, h3⟩ := parseP_ok hb.1
    exact ⟨h1, Nat.le_trans h3 hb.2⟩
theorem openP_byt {p : Pkt} (h : p.ok) : Byt (openP p).1 ∧ (openP p).1.length ≤ p.data.length := by
  unfold openP
  split
  · exact ⟨.nil, Nat.zero_le _⟩
  · split
    · exact ⟨.nil, Nat.zero_le _⟩
    · exact ownP_byt h.data
theorem borneT_fn (p : Pkt) (h : p.ok) (hl : p.data.length ≤ 100000) : Fn Tryz.prog 92 [.agg (pktD p)] fun d => d = .tup [.agg (pktD (borneP p).1), boolD (borneP p).2] := by
  refine FnX (fnOf [] Tryz.func92 rfl (by kernel_rfl) (Nat.le_of_ble_eq_true rfl) ?_)
  have ho := tunOpen_fn p h hl
  obtain ⟨hb1, hb2⟩ := openP_byt h
  have hp := ipParse_fn (openP p).1 hb1 (by omega)
  unfold borneP
  generalize openP p = R at *
  obtain ⟨b, e⟩ := R
  dsimp only at hp ho ⊢
  generalize parseP b = Q at *
  conv => whnf
  (refine CallVC.pure (ho) rfl ?_; rintro _ rfl; conv => whnf)
  refine Fork.intro (fun q => ?_) (fun q => ?_)
  · rw [decide_eq_false (show ¬ e = 0 from ndT q)]
    conv => whnf
    exact dleTup ⟨dleAgg ⟨DLe.refl _, DLe.refl _, DLe.refl _, DLe.refl _, DLe.refl _, DLe.refl _, DLe.refl _, DLe.refl _, DLe.refl _, DLe.nil _ _, DLe.nil _ _, trivial⟩, DLe.refl _, trivial⟩
  · rw [decide_eq_true (show e = 0 from ndF q)]
    conv => whnf
    (refine CallVC.pure (hp) rfl ?_; rintro _ rfl; conv => whnf)
    exact DLe.refl _
set_option maxHeartbeats 2000000 in
theorem packetT_fn (p : Pkt) (h : p.ok) (hl : p.data.length ≤ 100000) : Fn Tryz.prog 59 [.agg (pktD p)] (starts (kindPk p) 6611) := by
  refine fnOf [(7, [0, 1, 3, 4, 2, 5, 6, 7, 8]), (8, [0, 1, 3, 4, 6, 7, 8, 2, 5, 9, 10, 11])] Tryz.func59 rfl (by kernel_rfl) (Nat.le_of_ble_eq_true rfl) ?_
  have hb := borneT_fn p h hl
  have hp := plainT_fn p h hl
  obtain ⟨hok, hlen⟩ := borneP_ok p h
  have hq := plainT_fn (borneP p).1 hok (by omega)
  have hb2 := borneT_fn (borneP p).1 hok (by omega)
  have hk := kindB_ok (bodyOf (borneP p).1).1
  have ht1 := addrT_fn p.src h.src
  have ht2 := addrT_fn p.dst h.dst
  have ht3 := addrT_fn (borneP p).1.src hok.src
  have ht4 := addrT_fn (borneP p).1.dst hok.dst
  obtain ⟨_, _, _, _, w5, _⟩ := word_ok
  unfold kindPk
  unfold kindPl at hq
  generalize kindB (bodyOf (borneP p).1).1 = kq at *
  generalize borneP (borneP p).1 = R2 at *
  generalize borneP p = R at *
  obtain ⟨q, is⟩ := R
  obtain ⟨q2, more⟩ := R2
  dsimp only at hb hb2 hq ht3 ht4 ⊢
  have fin : ∀ (ta tb ti : List Nat), (Byt ta ∧ ta.length ≤ 600) → (Byt tb ∧ tb.length ≤ 600) → (Byt ti ∧ ti.length ≤ 600) → Fn Tryz.prog 14 [.lit 1 (([wIpip, ta, tb, ti] : List (List Nat)).map strE)] (starts wIpip 6611) := by
    intro ta tb ti h1 h2 h3
    refine words_starts wIpip ta [tb, ti] 600 w5 (fun x hx => ?_) (Nat.le_of_ble_eq_true rfl) (by decide)
    simp only [List.mem_cons, List.not_mem_nil, or_false] at hx
    rcases hx with rfl | rfl | rfl
    · exact h1
    · exact h2
    · exact h3
  conv => whnf
  (refine CallVC.pure (hb) rfl ?_; rintro _ rfl; conv => whnf)
  cases is with
  | false =>
    conv => whnf
    refine CallVC.pure hp rfl ?_
    rintro _ ⟨r, rfl, r1, r2⟩
    conv => whnf
    exact ⟨r, rfl, r1, by omega⟩
  | true =>
    conv => whnf
    refine CallVC.pure hq rfl ?_
    rintro _ ⟨r, rfl, r1, r2⟩
    conv => whnf
    (refine CallVC.pure (hb2) rfl ?_; rintro _ rfl; conv => whnf)
    obtain ⟨hk1, hk2⟩ := hk
    cases more with
    | true =>
      conv => whnf
      refine CallVC.pure ht3 rfl ?_
      rintro _ ⟨tc, rfl, tc1, tc2⟩
      conv => whnf
      refine CallVC.pure ht4 rfl ?_
      rintro _ ⟨td, rfl, td1, td2⟩
      conv => whnf
      (refine ⟨Nat.le_of_ble_eq_true rfl, ?_⟩; conv => whnf)
      have hw := words_starts wIpip tc [td] 50 w5 (fun x hx => by
        simp only [List.mem_cons, List.not_mem_nil, or_false] at hx
        rcases hx with rfl | rfl
        · exact ⟨tc1, by omega⟩
        · exact ⟨td1, by omega⟩) (Nat.le_of_ble_eq_true rfl) (by decide)
      refine CallVC.pure hw rfl ?_
      rintro _ ⟨v, rfl, v1, v2⟩
      conv => whnf
      have hv1 : Byt (wIpip ++ 32 :: v) := w5.1.append (.cons (by decide) v1)
      have hv2 : (wIpip ++ 32 :: v).length ≤ 580 := by have := w5.2; rw [List.length_append, List.length_cons]; omega
      generalize wIpip ++ 32 :: v = inn at *
      refine ⟨str_le (a := [91]) (b := inn) (by simp; omega), ?_⟩
      rw [show (⟨#[91]⟩ : ByteArray) = strB [91] from rfl, strB_append]
      conv => whnf
      refine ⟨str_le (a := [91] ++ inn) (b := [93]) (by simp; omega), ?_⟩
      rw [show (⟨#[93]⟩ : ByteArray) = strB [93] from rfl, strB_append]
      conv => whnf
      refine CallVC.pure ht1 rfl ?_
      rintro _ ⟨ta, rfl, ta1, ta2⟩
      conv => whnf
      refine CallVC.pure ht2 rfl ?_
      rintro _ ⟨tb, rfl, tb1, tb2⟩
      conv => whnf
      (refine ⟨Nat.le_of_ble_eq_true rfl, ?_⟩; conv => whnf)
      refine CallVC.pure (fin ta tb ([91] ++ inn ++ [93]) ⟨ta1, by omega⟩ ⟨tb1, by omega⟩ ⟨((Byt.cons (by decide) .nil).append hv1).append (.cons (by decide) .nil), by simp; omega⟩) rfl ?_
      rintro _ ⟨u, rfl, u1, u2⟩
      conv => whnf
      exact ⟨u, rfl, u1, u2⟩
    | false =>
      have hv1 : Byt (kq ++ 32 :: r) := hk1.append (.cons (by decide) r1)
      have hv2 : (kq ++ 32 :: r).length ≤ 580 := by rw [List.length_append, List.length_cons]; omega
      conv => whnf
      generalize kq ++ 32 :: r = inn at *
      refine ⟨str_le (a := [91]) (b := inn) (by simp; omega), ?_⟩
      rw [show (⟨#[91]⟩ : ByteArray) = strB [91] from rfl, strB_append]
      conv => whnf
      refine ⟨str_le (a := [91] ++ inn) (b := [93]) (by simp; omega), ?_⟩
      rw [show (⟨#[93]⟩ : ByteArray) = strB [93] from rfl, strB_append]
      conv => whnf
      refine CallVC.pure ht1 rfl ?_
      rintro _ ⟨ta, rfl, ta1, ta2⟩
      conv => whnf
      refine CallVC.pure ht2 rfl ?_
      rintro _ ⟨tb, rfl, tb1, tb2⟩
      conv => whnf
      (refine ⟨Nat.le_of_ble_eq_true rfl, ?_⟩; conv => whnf)
      refine CallVC.pure (fin ta tb ([91] ++ inn ++ [93]) ⟨ta1, by omega⟩ ⟨tb1, by omega⟩ ⟨((Byt.cons (by decide) .nil).append hv1).append (.cons (by decide) .nil), by simp; omega⟩) rfl ?_
      rintro _ ⟨u, rfl, u1, u2⟩
      conv => whnf
      exact ⟨u, rfl, u1, u2⟩
end Go.Proofs.YtgodclgcfpmloaaGreatDoor.V
namespace Go.Proofs.YtgodclgcfpmloaaGreatDoor.V
open Go.RowKit
attribute [local irreducible] Fn FnN FnR OpVC DLe

theorem arpOk_mac {b : List Nat} (hb : Byt b) : MacOk (parseA b).1.srcMac ∧ (parseA b).1.srcIP < 4294967296 ∧ (parseA b).1.dstIP < 4294967296 := by
  unfold parseA
  split
  · exact ⟨⟨rfl, byt_of rfl⟩, by decide, by decide⟩
  · rename_i h
    have h := of_decide_eq_false h
    split
    · refine ⟨⟨?_, (hb.drop 8).take 6⟩, get32_lt _ _, get32_lt _ _⟩
      show ((b.drop 8).take 6).length = 6
      rw [List.length_take, List.length_drop]; omega
    · exact ⟨⟨rfl, byt_of rfl⟩, by decide, by decide⟩
theorem macT_fn (m : List Nat) (hm : MacOk m) : Fn Tryz.prog 90 [.agg (m6D m)] (someT 17) := (mactext_fn m hm).mono fun d hd => ⟨_, hd, mtxt_byt hm, by rw [mtxt_len hm]; exact Nat.le_refl _⟩
set_option maxHeartbeats 1000000 in
theorem told_fn (x : Arp) (hm : MacOk x.srcMac) (hm2 : x.dstMac.length = 6) (h1 : x.srcIP < 4294967296) (h2 : x.dstIP < 4294967296) : Fn Tryz.prog 57 [.agg (arpD x)] (starts wArp 561) := by
  refine fnOf [(2, [0, 1, 3, 4, 2, 5, 6, 7, 8]), (3, [0, 1, 3, 4, 2, 5, 6, 7, 8])] Tryz.func57 rfl (by kernel_rfl) (Nat.le_of_ble_eq_true rfl) ?_
  have hs := addrT_fn x.srcIP h1
  have hd := addrT_fn x.dstIP h2
  have hmt := macT_fn x.srcMac hm
  obtain ⟨op, sm, sip, dm, dip⟩ := x
  dsimp only at hm hm2 hs hd hmt
  obtain ⟨a0, a1, a2, a3, a4, a5, rfl, _⟩ := hm.six
  obtain ⟨_, _, _, _, _, w6, _⟩ := word_ok
  have mem : ∀ (b : List Nat) (r : List (List Nat)), (Byt b ∧ b.length ≤ 50) → (∀ x, x ∈ r → Byt x ∧ x.length ≤ 50) → ∀ x, x ∈ b :: r → Byt x ∧ x.length ≤ 50 := fun b r h1 h2 x hx => by
    rcases List.mem_cons.1 hx with rfl | hx
    · exact h1
    · exact h2 x hx
  have none : ∀ x : List Nat, x ∈ ([] : List (List Nat)) → Byt x ∧ x.length ≤ 50 := fun x hx => absurd hx List.not_mem_nil
  match dm, hm2 with
  | [b0, b1, b2, b3, b4, b5], _ =>
  conv => whnf
  refine Fork.intro (fun q => ?_) (fun q => ?_)
  · conv => whnf
    refine CallVC.pure hd rfl ?_
    rintro _ ⟨ta, rfl, ta1, ta2⟩
    conv => whnf
    refine CallVC.pure hs rfl ?_
    rintro _ ⟨tb, rfl, tb1, tb2⟩
    conv => whnf
    (refine ⟨Nat.le_of_ble_eq_true rfl, ?_⟩; conv => whnf)
    refine CallVC.pure (words_starts wArp [119, 104, 111] [ta, [116, 101, 108, 108], tb] 50 w6 (mem _ _ ⟨byt_of rfl, by decide⟩ (mem _ _ ⟨ta1, by omega⟩ (mem _ _ ⟨byt_of rfl, by decide⟩ (mem _ _ ⟨tb1, by omega⟩ none)))) (Nat.le_of_ble_eq_true rfl) (by decide)) rfl ?_
    rintro _ ⟨r, rfl, r1, r2⟩
    conv => whnf
    exact ⟨r, rfl, r1, r2⟩
  · conv => whnf
    refine CallVC.pure hs rfl ?_
    rintro _ ⟨ta, rfl, ta1, ta2⟩
    conv => whnf
    refine CallVC.pure hmt rfl ?_
    rintro _ ⟨tb, rfl, tb1, tb2⟩
    conv => whnf
    (refine ⟨Nat.le_of_ble_eq_true rfl, ?_⟩; conv => whnf)
    refine CallVC.pure (words_starts wArp [105, 115] [ta, tb] 50 w6 (mem _ _ ⟨byt_of rfl, by decide⟩ (mem _ _ ⟨ta1, by omega⟩ (mem _ _ ⟨tb1, by omega⟩ none))) (Nat.le_of_ble_eq_true rfl) (by decide)) rfl ?_
    rintro _ ⟨r, rfl, r1, r2⟩
    conv => whnf
    exact ⟨r, rfl, r1, r2⟩
theorem parseE_ok {b : List Nat} (hb : Byt b) : Byt (parseE b).1.data ∧ (parseE b).1.data.length ≤ b.length ∧ (parseE b).1.type < 65536 ∧ (parseE b).1.dst.length = 6 ∧ (parseE b).1.src.length = 6 := by
  unfold parseE
  split
  · exact ⟨.nil, Nat.zero_le _, by decide, rfl, rfl⟩
  · rename_i h
    have h := of_decide_eq_false h
    split
    · exact ⟨.nil, Nat.zero_le _, by decide, rfl, rfl⟩
    · refine ⟨cutP_byt hb _ _, cutP_len _ _ _, get16_lt _ _, ?_, ?_⟩
      · show (b.take 6).length = 6
        rw [List.length_take]; omega
      · show ((b.drop 6).take 6).length = 6
        rw [List.length_take, List.length_drop]; omega
set_option maxHeartbeats 2000000 in
theorem textT_fn (b : List Nat) (hb : Byt b) (hl : b.length ≤ 100000) : Fn Tryz.prog 28 [octR b] (starts (kindFr b) 6611) := by
  refine fnOf [] Tryz.func28 rfl (by kernel_rfl) (Nat.le_of_ble_eq_true rfl) ?_
  have he := etherParse_fn b hb hl
  obtain ⟨e1, e2, e3, e4, e5⟩ := parseE_ok hb
  have ha := arpParse_fn (parseE b).1.data e1 (by omega)
  have hp := ipParse_fn (parseE b).1.data e1 (by omega)
  obtain ⟨m1, m2, m3⟩ := arpOk_mac e1
  obtain ⟨p1, _, p3⟩ := parseP_ok e1
  have htl : (parseA (parseE b).1.data).1.dstMac.length = 6 := by
    unfold parseA
    split
    · rfl
    · rename_i h
      have h := of_decide_eq_false h
      split
      · show (((parseE b).1.data.drop 18).take 6).length = 6
        rw [List.length_take, List.length_drop]; omega
      · rfl
  have ht := told_fn _ m1 htl m2 m3
  have hk := packetT_fn _ p1 (by omega)
  have hraw := many_fn b (by omega)
  obtain ⟨_, _, _, _, _, _, w7⟩ := word_ok
  unfold kindFr
  generalize parseA (parseE b).1.data = A at *
  generalize parseP (parseE b).1.data = Q at *
  generalize parseE b = E at *
  obtain ⟨⟨dst, src, t, data⟩, e⟩ := E
  obtain ⟨A, ae⟩ := A
  obtain ⟨Q, qe⟩ := Q
  dsimp only at *
  generalize kindPk Q = kq at *
  match dst, e4, src, e5 with
  | [d0, d1, d2, d3, d4, d5], _, [s0, s1, s2, s3, s4, s5], _ =>
  obtain ⟨op, sm, sip, dm, dip⟩ := A
  dsimp only at m1 htl ht
  obtain ⟨a0, a1, a2, a3, a4, a5, rfl, _⟩ := m1.six
  match dm, htl with
  | [b0, b1, b2, b3, b4, b5], _ =>
  conv => whnf
  (refine CallVC.pure (he) rfl ?_; rintro _ rfl; conv => whnf)
  refine Fork.intro (fun q => ?_) (fun q => ?_)
  rotate_left
  · have q : ¬ e = 0 := of_decide_eq_false q
    rw [decide_eq_false q]
    conv => whnf
    refine Fork.intro (fun h => absurd (of_decide_eq_true h) q) (fun _ => ?_)
    conv => whnf
    refine CallVC.pure hraw rfl ?_
    rintro _ ⟨rw1, rfl, ra1, ra2⟩
    conv => whnf
    (refine ⟨Nat.le_of_ble_eq_true rfl, ?_⟩; conv => whnf)
    refine CallVC.pure (words_starts wRaw rw1 [] 50 w7 (fun x hx => by rw [List.mem_singleton.1 hx]; exact ⟨ra1, by omega⟩) (Nat.zero_le _) (by decide)) rfl ?_
    rintro _ ⟨r, rfl, r1, r2⟩
    conv => whnf
    exact ⟨r, rfl, r1, by omega⟩
  have q : e = 0 := of_decide_eq_true q
  subst q
  rw [decide_eq_true (show (0 : Int) = 0 from rfl)]
  conv => whnf
  refine Fork.intro (fun q1 => ?_) (fun q1 => ?_)
  · have q1 : t = 2054 := by have : (t : Int) = 2054 := of_decide_eq_true q1; omega
    subst q1
    rw [decide_eq_true (show 2054 = 2054 from rfl), decide_eq_false (show ¬ 2054 = 2048 by decide)]
    conv => whnf
    (refine CallVC.pure (ha) rfl ?_; rintro _ rfl; conv => whnf)
    refine Fork.intro (fun q2 => ?_) (fun q2 => ?_)
    · have q2 : ae = 0 := of_decide_eq_true q2
      rw [decide_eq_true q2]
      conv => whnf
      refine CallVC.pure ht rfl ?_
      rintro _ ⟨r, rfl, r1, r2⟩
      conv => whnf
      exact ⟨r, rfl, r1, by omega⟩
    · have q2 : ¬ ae = 0 := of_decide_eq_false q2
      rw [decide_eq_false q2]
      conv => whnf
      refine CallVC.pure hraw rfl ?_
      rintro _ ⟨rw1, rfl, ra1, ra2⟩
      conv => whnf
      (refine ⟨Nat.le_of_ble_eq_true rfl, ?_⟩; conv => whnf)
      refine CallVC.pure (words_starts wRaw rw1 [] 50 w7 (fun x hx => by rw [List.mem_singleton.1 hx]; exact ⟨ra1, by omega⟩) (Nat.zero_le _) (by decide)) rfl ?_
      rintro _ ⟨r, rfl, r1, r2⟩
      conv => whnf
      exact ⟨r, rfl, r1, by omega⟩
  · have q1 : ¬ t = 2054 := by have : ¬ (t : Int) = 2054 := of_decide_eq_false q1; omega
    rw [decide_eq_false q1]
    conv => whnf
    refine Fork.intro (fun q2 => ?_) (fun q2 => ?_)
    · have q2 : t = 2048 := by have : (t : Int) = 2048 := of_decide_eq_true q2; omega
      rw [decide_eq_true q2]
      conv => whnf
      (refine CallVC.pure (hp) rfl ?_; rintro _ rfl; conv => whnf)
      refine Fork.intro (fun q3 => ?_) (fun q3 => ?_)
      · have q3 : qe = 0 := of_decide_eq_true q3
        rw [decide_eq_true q3]
        conv => whnf
        refine CallVC.pure hk rfl ?_
        rintro _ ⟨r, rfl, r1, r2⟩
        conv => whnf
        exact ⟨r, rfl, r1, by omega⟩
      · have q3 : ¬ qe = 0 := of_decide_eq_false q3
        rw [decide_eq_false q3]
        conv => whnf
        refine CallVC.pure hraw rfl ?_
        rintro _ ⟨rw1, rfl, ra1, ra2⟩
        conv => whnf
        (refine ⟨Nat.le_of_ble_eq_true rfl, ?_⟩; conv => whnf)
        refine CallVC.pure (words_starts wRaw rw1 [] 50 w7 (fun x hx => by rw [List.mem_singleton.1 hx]; exact ⟨ra1, by omega⟩) (Nat.zero_le _) (by decide)) rfl ?_
        rintro _ ⟨r, rfl, r1, r2⟩
        conv => whnf
        exact ⟨r, rfl, r1, by omega⟩
    · have q2 : ¬ t = 2048 := by have : ¬ (t : Int) = 2048 := of_decide_eq_false q2; omega
      rw [decide_eq_false q2]
      conv => whnf
      refine CallVC.pure hraw rfl ?_
      rintro _ ⟨rw1, rfl, ra1, ra2⟩
      conv => whnf
      (refine ⟨Nat.le_of_ble_eq_true rfl, ?_⟩; conv => whnf)
      refine CallVC.pure (words_starts wRaw rw1 [] 50 w7 (fun x hx => by rw [List.mem_singleton.1 hx]; exact ⟨ra1, by omega⟩) (Nat.zero_le _) (by decide)) rfl ?_
      rintro _ ⟨r, rfl, r1, r2⟩
      conv => whnf
      exact ⟨r, rfl, r1, by omega⟩
theorem kindFr_ok (b : List Nat) : Byt (kindFr b) ∧ (kindFr b).length ≤ 10 ∧ ∀ c, c ∈ kindFr b → c ≠ 32 := by
  have h : ∀ x : List Nat, (x = wIcmp ∨ x = wUdp ∨ x = wTcp ∨ x = wIp ∨ x = wIpip ∨ x = wArp ∨ x = wRaw) → Byt x ∧ x.length ≤ 10 ∧ ∀ c, c ∈ x → c ≠ 32 := by
    rintro x (rfl | rfl | rfl | rfl | rfl | rfl | rfl) <;> exact ⟨byt_of rfl, by decide, by decide⟩
  refine h _ ?_
  unfold kindFr kindPk kindPl
  repeat' split
  · exact .inr (.inr (.inr (.inr (.inr (.inl rfl)))))
  · exact .inr (.inr (.inr (.inr (.inl rfl))))
  · generalize (bodyOf _).1 = x
    cases x
    · exact .inr (.inr (.inr (.inl rfl)))
    · exact .inl rfl
    · exact .inr (.inl rfl)
    · exact .inr (.inr (.inl rfl))
  · exact .inr (.inr (.inr (.inr (.inr (.inr rfl)))))
structure Snt where
  nic : Int
  frame : List Nat
def sntD (x : Snt) : List D := [intD x.nic, octR x.frame]
def lineK (b : List Nat) (d : D) : Prop := ∃ n r, d = strD (n :: 32 :: (kindFr b ++ 32 :: r)) ∧ n < 256 ∧ n ≠ 32 ∧ Byt r ∧ r.length ≤ 6611
set_option maxHeartbeats 1000000 in
theorem lineT_fn (x : Snt) (hb : Byt x.frame) (hl : x.frame.length ≤ 100000) : Fn Tryz.prog 16 [.agg (sntD x)] (lineK x.frame) := by
  refine fnOf [] Tryz.func16 rfl (by kernel_rfl) (Nat.le_of_ble_eq_true rfl) ?_
  obtain ⟨nic, b⟩ := x
  dsimp only at hb hl
  have ht := textT_fn b hb hl
  obtain ⟨k1, k2, _⟩ := kindFr_ok b
  unfold lineK
  dsimp only
  generalize kindFr b = kw at *
  have fin : ∀ n r : List Nat, Byt n → n.length = 1 → Byt r → r.length ≤ 6611 → Fn Tryz.prog 14 [.lit 1 ([n, kw ++ 32 :: r].map strE)] fun d => d = strD (n ++ 32 :: (kw ++ 32 :: r)) := by
    intro n r h1 h2 h3 h4
    have e : joinN [32] [n, kw ++ 32 :: r] = n ++ 32 :: (kw ++ 32 :: r) := by rw [join_cons]; simp [joinN, List.intercalate]
    have := words_fn [n, kw ++ 32 :: r] (fun x hx => by
      rcases List.mem_cons.1 hx with rfl | hx
      · exact h1
      · rw [List.mem_singleton.1 hx]; exact k1.append (.cons (by decide) h3)) (Nat.le_of_ble_eq_true rfl) (by rw [e]; simp; omega)
    rwa [e] at this
  have noNic : ∀ r, Byt r → r.length ≤ 6611 → _ := fun r => fin [63] r (.cons (by decide) .nil) rfl
  conv => whnf
  refine Fork.intro (fun q1 => ?_) (fun q1 => ?_)
  rotate_left
  · conv => whnf
    refine CallVC.pure ht rfl ?_
    rintro _ ⟨r, rfl, r1, r2⟩
    conv => whnf
    (refine ⟨Nat.le_of_ble_eq_true rfl, ?_⟩; conv => whnf)
    refine CallVC.pure (noNic r r1 r2) rfl ?_
    rintro _ rfl
    conv => whnf
    exact ⟨63, r, rfl, by decide, by decide, r1, r2⟩
  have q1 : 0 ≤ nic := of_decide_eq_true q1
  conv => whnf
  refine Fork.intro (fun q2 => ?_) (fun q2 => ?_)
  rotate_left
  · conv => whnf
    refine CallVC.pure ht rfl ?_
    rintro _ ⟨r, rfl, r1, r2⟩
    conv => whnf
    (refine ⟨Nat.le_of_ble_eq_true rfl, ?_⟩; conv => whnf)
    refine CallVC.pure (noNic r r1 r2) rfl ?_
    rintro _ rfl
    conv => whnf
    exact ⟨63, r, rfl, by decide, by decide, r1, r2⟩
  have q2 : nic ≤ 9 := of_decide_eq_true q2
  obtain ⟨k, rfl⟩ : ∃ k : Nat, nic = (k : Int) := ⟨nic.toNat, by omega⟩
  have hd := digitsT_fn k (by omega)
  rw [dgs_lt (by omega)] at hd
  have e : IntKind.u32.wrap (k : Int) = (k : Int) := u32_small (by omega)
  conv => whnf
  rw [e]
  (refine CallVC.pure (hd) rfl ?_; rintro _ rfl; conv => whnf)
  refine CallVC.pure ht rfl ?_
  rintro _ ⟨r, rfl, r1, r2⟩
  conv => whnf
  (refine ⟨Nat.le_of_ble_eq_true rfl, ?_⟩; conv => whnf)
  refine CallVC.pure (fin [48 + k] r (.cons (by omega) .nil) rfl r1 r2) rfl ?_
  rintro _ rfl
  conv => whnf
  exact ⟨48 + k, r, rfl, by omega, by omega, r1, r2⟩
theorem kindT_fn (x : Snt) (hb : Byt x.frame) (hl : x.frame.length ≤ 100000) : Fn Tryz.prog 11 [.agg (sntD x)] fun d => d = strD (kindFr x.frame) := by
  refine fnOf [] Tryz.func11 rfl (by kernel_rfl) (Nat.le_of_ble_eq_true rfl) ?_
  have hline := lineT_fn x hb hl
  obtain ⟨k1, k2, k3⟩ := kindFr_ok x.frame
  unfold lineK at hline
  generalize kindFr x.frame = kw at *
  conv => whnf
  refine CallVC.pure hline rfl ?_
  rintro _ ⟨n, r, rfl, n1, n2, r1, r2⟩
  conv => whnf
  have hsp : spl 32 (n :: 32 :: (kw ++ 32 :: r)) = [n] :: kw :: spl 32 r := by
    show spl 32 ([n] ++ 32 :: (kw ++ 32 :: r)) = _
    rw [spl, splB_app (fun c hc => by rw [List.mem_singleton.1 hc]; exact decide_eq_false n2) rfl, splB_app (p := eqC 32) (fun c hc => decide_eq_false (k3 c hc)) rfl]
  refine split_vc (n :: 32 :: (kw ++ 32 :: r)) (.cons n1 (.cons (by decide) (k1.append (.cons (by decide) r1)))) (by simp; omega) (by decide) ?_
  rw [hsp]
  conv => whnf
  refine ⟨rfl, ⟨by decide, by simp only [List.length_cons]; omega⟩, ?_⟩
  conv => whnf
  refine ⟨rfl, by simp only [List.length_cons]; show 1 < _; omega, fun x hx => ?_⟩
  obtain rfl : kw = x := by injection hx
  conv => whnf
  try rfl
end Go.Proofs.YtgodclgcfpmloaaGreatDoor.V
