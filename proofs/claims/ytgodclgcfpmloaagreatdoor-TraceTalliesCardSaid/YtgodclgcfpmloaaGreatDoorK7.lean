/-
  What a filter sees of a packet, what a step asks of it, which filters may be: the program's, by value. Conditions: bytes, not too many; numbers of their types.
  The document's sums, heads, datagrams, segments, of bytes: by value. Conditions: bytes, not too many; numbers of their types.
  IPv4 packets of bytes: the program's and the document's, by value. Conditions: bytes, not too many; numbers of their types.
  ICMP messages, packets within packets: the document's, the program's, by value. Conditions: bytes, not too many; numbers of their types.
-/
import Derived.Test.YtgodclgcfpmloaaGreatDoorK6
import Derived.WalkKit
import Derived.WalkSpells
import Derived.WalkLawsBesides
import Derived.Deep.Light
import Derived.Deep.RegionHeld3
import Derived.Deep.MidRow
import Derived.Lib.Hide
import Derived.Laws.BitsAllLaws
import Derived.Test.YtgodclgcfpmloaaGreatDoorProg
import Derived.LoopTactic
import Derived.Handy
namespace Go.Proofs.YtgodclgcfpmloaaGreatDoor.V
open Go.RowKit

attribute [local irreducible] Fn FnN FnR OpVC DLe

/-! ### What is seen -/
def hasF (f k : Nat) : Bool := decide (f &&& k = k)
theorem hasF_eq (f k : Nat) (hf : f < 256) (hk : k < 256) : decide (IntKind.u8.wrap (((BitVec.ofInt IntKind.u8.bits (f : Int) &&& BitVec.ofInt IntKind.u8.bits (k : Int)).toNat : Nat) : Int) = (k : Int)) = hasF f k := by
  have h : (BitVec.ofInt 8 (f : Int) &&& BitVec.ofInt 8 (k : Int)).toNat = f &&& k := by
    rw [BitVec.toNat_and, BitVec.toNat_ofInt, BitVec.toNat_ofInt]
    congr 1 <;> omega
  have hl : f &&& k ≤ k := Nat.and_le_right
  rw [show (BitVec.ofInt IntKind.u8.bits (f : Int) &&& BitVec.ofInt IntKind.u8.bits (k : Int)).toNat = f &&& k from h, u8_small (by omega)]
  unfold hasF
  exact decide_eq_decide.2 (by omega)
theorem dgm_lt (src dst : Nat) (b : List Nat) : (parseU src dst b).1.src < 65536 ∧ (parseU src dst b).1.dst < 65536 := by
  unfold parseU
  repeat' split
  all_goals first | exact ⟨by decide, by decide⟩ | exact ⟨get16_lt _ _, get16_lt _ _⟩
theorem seg_lt (src dst : Nat) (b : List Nat) (hb : Byt b) : (parseT src dst b).1.src < 65536 ∧ (parseT src dst b).1.dst < 65536 ∧ (parseT src dst b).1.flags < 256 := by
  have h13 : b.getD 13 0 < 256 := by
    cases hq : b[13]? with
    | none => rw [List.getD_eq_getElem?_getD, hq]; decide
    | some x => rw [getD_of hq]; exact hb.get hq
  unfold parseT
  repeat' split
  all_goals first | exact ⟨by decide, by decide, by decide⟩ | exact ⟨get16_lt _ _, get16_lt _ _, h13⟩
end Go.Proofs.YtgodclgcfpmloaaGreatDoor.V
namespace Go.Proofs.YtgodclgcfpmloaaGreatDoor.V
open Go.RowKit

theorem dleLit {α : Type} {e : Nat} {enc : α → List D} {L : List α} (hf : ∀ y d, d ∈ enc y → flatD 4 d = true) : DLe (.lit e (L.map enc)) (.rows α e enc L) := fun C v h => by
  cases h with
  | lit b o g hc hp hl hcell hrep =>
    rw [List.length_map] at hc
    have hget : ∀ (i : Nat) x, L[i]? = some x → (L.map enc)[i]? = some (enc x) := fun i x hx => by rw [List.getElem?_map, hx]; rfl
    rw [List.length_map]
    refine .rows b o g (Nat.le_of_eq hc) (fun hn => hp (by simpa using hn)) (fun i x hx => hl i _ (hget i x hx)) (fun i x j d hx hd => hcell i _ j d (hget i x hx) hd) (fun i x j d hx hd => flat_rep 4 d _ (hf x d (List.mem_of_getElem? hd)) (hrep i _ j d (hget i x hx) hd))
theorem octE_flat : ∀ (y : Nat) (d : D), d ∈ octE y → flatD 4 d = true := fun y d hd => by simp [octE] at hd; subst hd; rfl
theorem reps_one {C : Ctx} {a b : D} (h : DLe b a) : ∀ {l r : List D} {vs : List Value}, reps C (l ++ b :: r) vs → reps C (l ++ a :: r) vs := fun {l r vs} hr => by
  refine ⟨by rw [hr.1, List.length_append, List.length_append]; rfl, fun j d u hd hu => ?_⟩
  by_cases hj : j = l.length
  · subst hj
    rw [List.getElem?_append_right (Nat.le_refl _), Nat.sub_self] at hd
    injection hd with hd
    subst hd
    exact h _ _ (hr.2 l.length b u (by rw [List.getElem?_append_right (Nat.le_refl _), Nat.sub_self]; rfl) hu)
  · refine hr.2 j d u ?_ hu
    by_cases hl : j < l.length
    · rw [List.getElem?_append_left hl] at hd ⊢; exact hd
    · rw [List.getElem?_append_right (by omega)] at hd ⊢
      obtain ⟨m, hm⟩ : ∃ m, j - l.length = m + 1 := ⟨j - l.length - 1, by omega⟩
      rw [hm] at hd ⊢
      exact hd
attribute [local irreducible] Fn FnN FnR OpVC DLe

theorem ndT {p : Prop} [Decidable p] (h : (!decide p) = true) : ¬ p := fun hp => by rw [decide_eq_true hp] at h; cases h
theorem ndF {p : Prop} [Decidable p] (h : (!decide p) = false) : p := by
  by_cases hp : p
  · exact hp
  · rw [decide_eq_false hp] at h; cases h
theorem rOnes_fn (l : List Nat) (hl : Byt l) (hlen : l.length ≤ 1000000) : Fn Tryz.prog 34 [octR l] fun d => d = intD (onesL l) := by
  refine fnOf [] Tryz.func34 rfl (by kernel_rfl) (Nat.le_of_ble_eq_true rfl) ?_
  conv => whnf
  refine ⟨Nat, fun m => ⟨[(4, intD m), (3, intD (onesL (l.take m))), (0, octR l)], [], 0, ([], 0)⟩, fun m => m % 2 = 0 ∧ m ≤ l.length + 1, fun m => l.length + 1 - m, ⟨0, [], [], ?_, rfl, Nat.zero_le _⟩, ?_⟩
  · repeat' (first | exact trivial | exact .inl (DLe.refl _) | exact .inl (DLe.nil _ _) | (refine .inr ⟨rfl, _, ?_, rfl⟩; rfl) | exact rfl | exact .inl rfl | exact .inr ⟨rfl, rfl, rfl, rfl⟩ | exact Nat.zero_le _ | constructor)
  intro m hk
  obtain ⟨hk0, hk⟩ : m % 2 = 0 ∧ m ≤ l.length + 1 := hk
  have e1 : IntKind.i64.wrap ((m : Int) + 1) = ((m + 1 : Nat) : Int) := wrapN (by omega)
  have e2 : IntKind.i64.wrap ((m : Int) + 2) = ((m + 2 : Nat) : Int) := by rw [IntWalk.i64_in _ (by omega)]; omega
  have hn := onesL_lt (l.take m)
  conv => whnf
  refine Fork.intro (fun q => ?_) (fun q => ?_)
  · have q : m < l.length := by have := of_decide_eq_true q; omega
    obtain ⟨x, hx⟩ : ∃ x, l[m]? = some x := ⟨_, List.getElem?_eq_getElem q⟩
    have hx256 := hl.get hx
    have ex : IntKind.i64.wrap (IntKind.i64.wrap (x : Int) * 256) = ((x * 256 : Nat) : Int) := by
      rw [IntWalk.i64_in (x : Int) (by omega), IntWalk.i64_in _ (by omega)]; omega
    have s1 := smB_take hx
    rw [if_pos (by omega)] at s1
    have fin : ∀ y : Nat, y < 65536 → onesL (l.take (m + 2)) = foldN (smB true (l.take m) + y) → ∀ z : Nat, z = onesL (l.take m) + y → onesL (l.take (m + 2)) = (if 65535 < z then z - 65535 else z) := by
      intro y hy he z hz
      rw [he, ← foldN_add, show foldN (smB true (l.take m)) = onesL (l.take m) from rfl, ← hz]
      split
      · obtain ⟨a, ha⟩ : ∃ a, z = a + 1 := ⟨z - 1, by omega⟩
        subst ha
        show a % 65535 + 1 = _
        omega
      · exact foldN_small (by omega)
    have go : ∀ y : Nat, y < 65536 → onesL (l.take (m + 2)) = foldN (smB true (l.take m) + y) → IntKind.i64.wrap ((onesL (l.take m) : Int) + (y : Int)) = ((onesL (l.take m) + y : Nat) : Int) ∧ (65535 < onesL (l.take m) + y → IntKind.i64.wrap (((onesL (l.take m) + y : Nat) : Int) - 65535) = (onesL (l.take (m + 2)) : Int)) ∧ (¬ 65535 < onesL (l.take m) + y → onesL (l.take m) + y = onesL (l.take (m + 2))) := by
      intro y hy he
      have hf := fin y hy he _ rfl
      refine ⟨wrapK (by omega) (by omega), fun h => ?_, fun h => ?_⟩
      · rw [if_pos h] at hf
        rw [IntWalk.i64_in _ (by omega)]; omega
      · rw [if_neg h] at hf; exact hf.symm
    conv => whnf
    refine ⟨rfl, ⟨by omega, by omega⟩, fun x' hx' => ?_⟩
    obtain rfl : x = x' := Option.some.inj (hx.symm.trans hx')
    conv => whnf
    rw [ex, e1]
    refine Fork.intro (fun q2 => ?_) (fun q2 => ?_)
    · have q2 : m + 1 < l.length := by have := of_decide_eq_true q2; omega
      obtain ⟨y, hy⟩ : ∃ y, l[m + 1]? = some y := ⟨_, List.getElem?_eq_getElem q2⟩
      have hy256 := hl.get hy
      have s2 := smB_take hy
      rw [if_neg (by omega), s1] at s2
      have ey : IntKind.i64.wrap (((x * 256 : Nat) : Int) + IntKind.i64.wrap (y : Int)) = ((x * 256 + y : Nat) : Int) := by
        rw [IntWalk.i64_in (y : Int) (by omega), IntWalk.i64_in _ (by omega)]; omega
      obtain ⟨g1, g2, g3⟩ := go (x * 256 + y) (by omega) (by rw [show m + 2 = m + 1 + 1 from rfl]; unfold onesL; rw [s2]; congr 1; omega)
      conv => whnf
      rw [e1]
      refine ⟨rfl, ⟨by omega, by omega⟩, fun y' hy' => ?_⟩
      obtain rfl : y = y' := Option.some.inj (hy.symm.trans hy')
      conv => whnf
      rw [ey, g1]
      refine Fork.intro (fun q3 => ?_) (fun q3 => ?_)
      · conv => whnf
        rw [g2 (by have := of_decide_eq_true q3; omega), e2]
        refine ⟨m + 2, [], [], ?_, ⟨by show (m + 2) % 2 = 0; omega, by show m + 2 ≤ l.length + 1; omega⟩, by show l.length + 1 - (m + 2) < l.length + 1 - m; omega⟩
        repeat' (first | exact trivial | exact .inl (DLe.refl _) | exact .inl (DLe.nil _ _) | (refine .inr ⟨rfl, _, ?_, rfl⟩; rfl) | exact rfl | exact .inl rfl | exact .inr ⟨rfl, rfl, rfl, rfl⟩ | exact Nat.zero_le _ | constructor)
      · conv => whnf
        rw [g3 (by have := of_decide_eq_false q3; omega), e2]
        refine ⟨m + 2, [], [], ?_, ⟨by show (m + 2) % 2 = 0; omega, by show m + 2 ≤ l.length + 1; omega⟩, by show l.length + 1 - (m + 2) < l.length + 1 - m; omega⟩
        repeat' (first | exact trivial | exact .inl (DLe.refl _) | exact .inl (DLe.nil _ _) | (refine .inr ⟨rfl, _, ?_, rfl⟩; rfl) | exact rfl | exact .inl rfl | exact .inr ⟨rfl, rfl, rfl, rfl⟩ | exact Nat.zero_le _ | constructor)
    · have q2 : l.length = m + 1 := by have := of_decide_eq_false q2; omega
      obtain ⟨g1, g2, g3⟩ := go (x * 256) (by omega) (by rw [List.take_of_length_le (show l.length ≤ m + 2 by omega), ← s1, List.take_of_length_le (by omega)]; rfl)
      conv => whnf
      rw [g1]
      refine Fork.intro (fun q3 => ?_) (fun q3 => ?_)
      · conv => whnf
        rw [g2 (by have := of_decide_eq_true q3; omega), e2]
        refine ⟨m + 2, [], [], ?_, ⟨by show (m + 2) % 2 = 0; omega, by show m + 2 ≤ l.length + 1; omega⟩, by show l.length + 1 - (m + 2) < l.length + 1 - m; omega⟩
        repeat' (first | exact trivial | exact .inl (DLe.refl _) | exact .inl (DLe.nil _ _) | (refine .inr ⟨rfl, _, ?_, rfl⟩; rfl) | exact rfl | exact .inl rfl | exact .inr ⟨rfl, rfl, rfl, rfl⟩ | exact Nat.zero_le _ | constructor)
      · conv => whnf
        rw [g3 (by have := of_decide_eq_false q3; omega), e2]
        refine ⟨m + 2, [], [], ?_, ⟨by show (m + 2) % 2 = 0; omega, by show m + 2 ≤ l.length + 1; omega⟩, by show l.length + 1 - (m + 2) < l.length + 1 - m; omega⟩
        repeat' (first | exact trivial | exact .inl (DLe.refl _) | exact .inl (DLe.nil _ _) | (refine .inr ⟨rfl, _, ?_, rfl⟩; rfl) | exact rfl | exact .inl rfl | exact .inr ⟨rfl, rfl, rfl, rfl⟩ | exact Nat.zero_le _ | constructor)
  · have q : ¬ m < l.length := by have := of_decide_eq_false q; omega
    rw [List.take_of_length_le (by omega)]
    conv => whnf
theorem rHead_fn (src dst proto n : Nat) (h1 : src < 4294967296) (h2 : dst < 4294967296) (hn : n ≤ 1000000) : Fn Tryz.prog 95 [u32D src, u32D dst, u8D proto, intD n] fun d => d = octR (headL src dst proto n) := by
  refine fnOf [] Tryz.func95 rfl (by kernel_rfl) (Nat.le_of_ble_eq_true rfl) ?_
  have p1 := rPut_fn src 4 h1 (by decide)
  have p2 := rPut_fn dst 4 h2 (by decide)
  rw [bigL_four] at p1 p2
  have a1 := rAdd_fn (b4 src) (b4 dst) (by simp [b4]) (by simp [b4])
  have a2 := rAdd_fn (b4 src ++ b4 dst) ([0, proto] ++ b2 n) (by simp [b4]) (by simp [b2])
  have a3 : Fn Tryz.prog 61 [octR (b4 src ++ b4 dst), .lit 1 [[u8D 0], [u8D proto], [u8D ((n / 256 % 256 : Nat) : Int)], [u8D ((n % 256 : Nat) : Int)]]] fun d => d = octR (headL src dst proto n) := by
    have := FnLe a2 fun C vs hr => reps_one (l := [octR (b4 src ++ b4 dst)]) (r := []) (dleLit octE_flat) hr
    rw [show headL src dst proto n = b4 src ++ b4 dst ++ ([0, proto] ++ b2 n) by rw [headL, List.append_assoc]]
    exact this
  have c1 : IntKind.u8.wrap (((n : Int).tdiv 256).tmod 256) = ((n / 256 % 256 : Nat) : Int) := by
    rw [Int.tdiv_eq_ediv_of_nonneg (by omega), Int.tmod_eq_emod_of_nonneg (by omega), u8_small (by omega)]; omega
  have c2 : IntKind.u8.wrap ((n : Int).tmod 256) = ((n % 256 : Nat) : Int) := by
    rw [Int.tmod_eq_emod_of_nonneg (by omega), u8_small (by omega)]; omega
  have c3 : IntKind.i64.wrap ((n : Int).tdiv 256) = (n : Int).tdiv 256 := by rw [Int.tdiv_eq_ediv_of_nonneg (by omega), IntWalk.i64_in _ (by omega)]
  conv => whnf
  (refine CallVC.pure (p1) rfl ?_; rintro _ rfl; conv => whnf)
  (refine CallVC.pure (p2) rfl ?_; rintro _ rfl; conv => whnf)
  (refine CallVC.pure (a1) rfl ?_; rintro _ rfl; conv => whnf)
  refine ⟨by decide, ?_⟩
  conv => whnf
  refine ⟨by decide, ?_⟩
  conv => whnf
  refine ⟨by decide, ?_⟩
  conv => whnf
  simp only [c3, c1, c2]
  (refine ⟨Nat.le_of_ble_eq_true rfl, ?_⟩; conv => whnf)
  (refine CallVC.pure (a3) rfl ?_; rintro _ rfl; conv => whnf)

/-! ### Datagrams, segments -/
theorem getD_lt {b : List Nat} (hb : Byt b) (i : Nat) : b.getD i 0 < 256 := by
  cases hq : b[i]? with
  | none => rw [List.getD_eq_getElem?_getD, hq]; decide
  | some x => rw [getD_of hq]; exact hb.get hq
theorem get16_at {b : List Nat} (hb : Byt b) {i : Nat} (h : i + 1 < b.length) : get16 b i = b.getD i 0 * 256 + b.getD (i + 1) 0 := by
  have h1 : b[i]? = some (b.getD i 0) := by rw [List.getD_eq_getElem?_getD, List.getElem?_eq_getElem (by omega)]; rfl
  have h2 : b[i + 1]? = some (b.getD (i + 1) 0) := by rw [List.getD_eq_getElem?_getD, List.getElem?_eq_getElem h]; rfl
  exact get16_two h1 h2 (getD_lt hb _) (getD_lt hb _)
theorem u16two {b : List Nat} (hb : Byt b) (i : Nat) (h : i + 1 < b.length) : IntKind.u16.wrap (IntKind.u16.wrap (IntKind.u16.wrap ((b.getD i 0 : Nat) : Int) * 256) + IntKind.u16.wrap ((b.getD (i + 1) 0 : Nat) : Int)) = ((get16 b i : Nat) : Int) := by
  have h1 := getD_lt hb i
  have h2 := getD_lt hb (i + 1)
  rw [get16_at hb h]
  simp only [u16_wrap]
  omega
theorem i64two {b : List Nat} (hb : Byt b) (i : Nat) (h : i + 1 < b.length) : IntKind.i64.wrap (IntKind.i64.wrap (IntKind.i64.wrap ((b.getD i 0 : Nat) : Int) * 256) + IntKind.i64.wrap ((b.getD (i + 1) 0 : Nat) : Int)) = ((get16 b i : Nat) : Int) := by
  have h1 := getD_lt hb i
  have h2 := getD_lt hb (i + 1)
  rw [get16_at hb h, IntWalk.i64_in ((b.getD i 0 : Nat) : Int) (by omega), IntWalk.i64_in ((b.getD (i + 1) 0 : Nat) : Int) (by omega), IntWalk.i64_in (((b.getD i 0 : Nat) : Int) * 256) (by omega), IntWalk.i64_in _ (by omega)]
  omega
theorem cutP_from (l : List Nat) (n : Nat) (k : Nat) (h : n ≤ l.length) : cutP l k (n - k) = cutP (l.take n) k (n - k) := by
  unfold cutP
  have hl : (l.take n).length = n := by rw [List.length_take]; omega
  rw [hl]
  cases hq : decide (k + (n - k) ≤ n) with
  | true =>
    have hq := of_decide_eq_true hq
    rw [decide_eq_true (by omega)]
    dsimp only
    rw [List.drop_take, List.take_take]
    congr 1
    omega
  | false =>
    have hq := of_decide_eq_false hq
    cases hz : decide (k + (n - k) ≤ l.length) with
    | false => rfl
    | true =>
      dsimp only
      rw [show n - k = 0 by omega, List.take_zero]
theorem get16_take {b : List Nat} (hb : Byt b) {n i : Nat} (h : i + 1 < n) (hn : n ≤ b.length) : get16 (b.take n) i = get16 b i := by
  have hl : (b.take n).length = n := by rw [List.length_take]; omega
  have hg : ∀ k, k < n → (b.take n).getD k 0 = b.getD k 0 := fun k hk => by rw [List.getD_eq_getElem?_getD, List.getD_eq_getElem?_getD, List.getElem?_take, if_pos hk]
  rw [get16_at (fun c hc => hb c (List.mem_of_mem_take hc)) (by omega), get16_at hb (by omega), hg i (by omega), hg (i + 1) h]
set_option maxHeartbeats 2000000 in
theorem rParseU_fn (src dst : Nat) (b : List Nat) (h1 : src < 4294967296) (h2 : dst < 4294967296) (hb : Byt b) (hl : b.length ≤ 100000) : Fn Tryz.prog 66 [u32D src, u32D dst, octR b] fun d => d = dgmR (parseU src dst b) := by
  refine FnX (fnOf [(9, [0, 1, 2, 3, 4, 5, 7, 8, 9, 6, 10, 11, 12, 13])] Tryz.func66 rfl (by kernel_rfl) (Nat.le_of_ble_eq_true rfl) ?_)
  have hlt := get16_lt b 4
  unfold parseU udpBad
  conv => whnf
  refine Fork.intro (fun q1 => ?_) (fun q1 => ?_)
  · rw [decide_eq_true (show b.length < 8 by have := of_decide_eq_true q1; omega)]
    conv => whnf
    exact dgm0_le
  have q1 : ¬ b.length < 8 := by have := of_decide_eq_false q1; omega
  rw [decide_eq_false q1]
  dsimp only
  have t4 := i64two hb 4 (by omega)
  have t0 := u16two hb 0 (by omega)
  have t2 := u16two hb 2 (by omega)
  have t6 : get16 b 6 = b.getD 6 0 * 256 + b.getD 7 0 := get16_at hb (i := 6) (by omega)
  have b6 := getD_lt hb 6
  have b7 := getD_lt hb 7
  conv => whnf
  (refine ⟨rfl, ⟨by omega, by omega⟩, fun x hx => ?_⟩; obtain rfl : b.getD 4 0 = x := getD_of hx; conv => whnf)
  (refine ⟨rfl, ⟨by omega, by omega⟩, fun x hx => ?_⟩; obtain rfl : b.getD 5 0 = x := getD_of hx; conv => whnf)
  simp only [t4]
  generalize hn : get16 b 4 = n at *
  refine Fork.intro (fun q2 => ?_) (fun q2 => ?_)
  · rw [decide_eq_true (show n < 8 by have := of_decide_eq_true q2; omega)]
    conv => whnf
    exact dgm0_le
  have q2 : ¬ n < 8 := by have := of_decide_eq_false q2; omega
  rw [decide_eq_false q2]
  dsimp only
  conv => whnf
  refine Fork.intro (fun q3 => ?_) (fun q3 => ?_)
  · rw [decide_eq_true (show b.length < n by have := of_decide_eq_true q3; omega)]
    conv => whnf
    exact dgm0_le
  have q3 : ¬ b.length < n := by have := of_decide_eq_false q3; omega
  rw [decide_eq_false q3]
  dsimp only
  have hall : Byt (b.take n) := fun c hc => hb c (List.mem_of_mem_take hc)
  have hln : (b.take n).length = n := by rw [List.length_take]; omega
  have hh := rHead_fn src dst 17 n h1 h2 (by omega)
  have ha := rAdd_fn (headL src dst 17 n) (b.take n) (by rw [headL_len]; decide) (by omega)
  have ho := rOnes_fn (headL src dst 17 n ++ b.take n) (bytA (headL_byt (by decide)) hall) (by rw [List.length_append, headL_len]; omega)
  have hc := rCut_fn b 8 (n - 8) (by omega) (by omega)
  have e8 : IntKind.i64.wrap ((n : Int) - 8) = ((n - 8 : Nat) : Int) := by rw [IntWalk.i64_in _ (by omega)]; omega
  rw [cutP_from b n 8 (by omega)] at hc
  rw [get16_take hb (by omega) (by omega), get16_take hb (by omega) (by omega)]
  generalize headL src dst 17 n ++ b.take n = HB at *
  generalize headL src dst 17 n = H at *
  generalize cutP (b.take n) 8 (n - 8) = xd at *
  have fin : ∀ zz : Bool, DLe (.tup [.agg [u16D (get16 b 0), u16D (get16 b 2), boolD zz, octR xd], intD 0]) (dgmR (⟨get16 b 0, get16 b 2, zz, xd⟩, 0)) := fun zz => DLe.refl _
  conv => whnf
  (refine ⟨rfl, ⟨by omega, by omega⟩, fun x hx => ?_⟩; obtain rfl : b.getD 6 0 = x := getD_of hx; conv => whnf)
  refine Fork.intro (fun q6 => ?_) (fun q6 => ?_)
  · have q6 : b.getD 6 0 = 0 := by have := of_decide_eq_true q6; omega
    conv => whnf
    (refine ⟨rfl, ⟨by omega, by omega⟩, fun x hx => ?_⟩; obtain rfl : b.getD 7 0 = x := getD_of hx; conv => whnf)
    cases hz : decide (((b.getD 7 0 : Nat) : Int) = 0) with
    | true =>
      have hz6 : decide (get16 b 6 = 0) = true := decide_eq_true (by have := of_decide_eq_true hz; omega)
      simp only [hz6, Bool.not_true, Bool.false_and]
      conv => whnf
      rw [e8]
      (refine CallVC.pure (hc) rfl ?_; rintro _ rfl; conv => whnf)
      (refine ⟨rfl, ⟨by omega, by omega⟩, fun x hx => ?_⟩; obtain rfl : b.getD 0 0 = x := getD_of hx; conv => whnf)
      (refine ⟨rfl, ⟨by omega, by omega⟩, fun x hx => ?_⟩; obtain rfl : b.getD 1 0 = x := getD_of hx; conv => whnf)
      (refine ⟨rfl, ⟨by omega, by omega⟩, fun x hx => ?_⟩; obtain rfl : b.getD 2 0 = x := getD_of hx; conv => whnf)
      (refine ⟨rfl, ⟨by omega, by omega⟩, fun x hx => ?_⟩; obtain rfl : b.getD 3 0 = x := getD_of hx; conv => whnf)
      simp only [t0, t2]
      conv => whnf
      exact fin _
    | false =>
      have hz6 : decide (get16 b 6 = 0) = false := decide_eq_false (by have := of_decide_eq_false hz; omega)
      simp only [hz6, Bool.not_false, Bool.true_and]
      conv => whnf
      refine ⟨rfl, ⟨by omega, by omega, by omega⟩, ?_⟩
      conv => whnf
      (refine CallVC.pure (hh) rfl ?_; rintro _ rfl; conv => whnf)
      (refine CallVC.pure (ha) rfl ?_; rintro _ rfl; conv => whnf)
      (refine CallVC.pure (ho) rfl ?_; rintro _ rfl; conv => whnf)
      refine Fork.intro (fun q5 => ?_) (fun q5 => ?_)
      · rw [decide_eq_false (show ¬ onesL HB = 65535 by have := ndT q5; omega)]
        conv => whnf
        exact dgm0_le
      have q5 : onesL HB = 65535 := by have := ndF q5; omega
      rw [decide_eq_true q5]
      conv => whnf
      rw [e8]
      (refine CallVC.pure (hc) rfl ?_; rintro _ rfl; conv => whnf)
      (refine ⟨rfl, ⟨by omega, by omega⟩, fun x hx => ?_⟩; obtain rfl : b.getD 0 0 = x := getD_of hx; conv => whnf)
      (refine ⟨rfl, ⟨by omega, by omega⟩, fun x hx => ?_⟩; obtain rfl : b.getD 1 0 = x := getD_of hx; conv => whnf)
      (refine ⟨rfl, ⟨by omega, by omega⟩, fun x hx => ?_⟩; obtain rfl : b.getD 2 0 = x := getD_of hx; conv => whnf)
      (refine ⟨rfl, ⟨by omega, by omega⟩, fun x hx => ?_⟩; obtain rfl : b.getD 3 0 = x := getD_of hx; conv => whnf)
      simp only [t0, t2]
      conv => whnf
      exact fin _
  · have q6 : ¬ b.getD 6 0 = 0 := by have := of_decide_eq_false q6; omega
    have hz6 : decide (get16 b 6 = 0) = false := decide_eq_false (by omega)
    simp only [hz6, Bool.not_false, Bool.true_and]
    conv => whnf
    refine ⟨rfl, ⟨by omega, by omega, by omega⟩, ?_⟩
    conv => whnf
    (refine CallVC.pure (hh) rfl ?_; rintro _ rfl; conv => whnf)
    (refine CallVC.pure (ha) rfl ?_; rintro _ rfl; conv => whnf)
    (refine CallVC.pure (ho) rfl ?_; rintro _ rfl; conv => whnf)
    refine Fork.intro (fun q5 => ?_) (fun q5 => ?_)
    · rw [decide_eq_false (show ¬ onesL HB = 65535 by have := ndT q5; omega)]
      conv => whnf
      exact dgm0_le
    have q5 : onesL HB = 65535 := by have := ndF q5; omega
    rw [decide_eq_true q5]
    conv => whnf
    rw [e8]
    (refine CallVC.pure (hc) rfl ?_; rintro _ rfl; conv => whnf)
    (refine ⟨rfl, ⟨by omega, by omega⟩, fun x hx => ?_⟩; obtain rfl : b.getD 0 0 = x := getD_of hx; conv => whnf)
    (refine ⟨rfl, ⟨by omega, by omega⟩, fun x hx => ?_⟩; obtain rfl : b.getD 1 0 = x := getD_of hx; conv => whnf)
    (refine ⟨rfl, ⟨by omega, by omega⟩, fun x hx => ?_⟩; obtain rfl : b.getD 2 0 = x := getD_of hx; conv => whnf)
    (refine ⟨rfl, ⟨by omega, by omega⟩, fun x hx => ?_⟩; obtain rfl : b.getD 3 0 = x := getD_of hx; conv => whnf)
    simp only [t0, t2]
    conv => whnf
    exact fin _
set_option maxHeartbeats 4000000 in
theorem rParseT_fn (src dst : Nat) (b : List Nat) (h1 : src < 4294967296) (h2 : dst < 4294967296) (hb : Byt b) (hl : b.length ≤ 100000) : Fn Tryz.prog 68 [u32D src, u32D dst, octR b] fun d => d = segR (parseT src dst b) := by
  refine FnX (fnOf [] Tryz.func68 rfl (by kernel_rfl) (Nat.le_of_ble_eq_true rfl) ?_)
  unfold parseT
  conv => whnf
  refine Fork.intro (fun q1 => ?_) (fun q1 => ?_)
  · rw [decide_eq_true (show b.length < 20 by have := of_decide_eq_true q1; omega)]
    conv => whnf
    exact seg0_le
  have q1 : ¬ b.length < 20 := by have := of_decide_eq_false q1; omega
  rw [decide_eq_false q1]
  dsimp only
  have b12 := getD_lt hb 12
  have eo : IntKind.i64.wrap (IntKind.i64.wrap ((IntKind.i64.wrap ((b.getD 12 0 : Nat) : Int)).tdiv 16) * 4) = ((offT b : Nat) : Int) := by
    unfold offT
    rw [IntWalk.i64_in ((b.getD 12 0 : Nat) : Int) (by omega), Int.tdiv_eq_ediv_of_nonneg (by omega), IntWalk.i64_in (((b.getD 12 0 : Nat) : Int) / 16) (by omega), IntWalk.i64_in _ (by omega)]
    omega
  have hoff : offT b ≤ 60 := by unfold offT; omega
  generalize hn : offT b = n at *
  have t0 := u16two hb 0 (by omega)
  have t2 := u16two hb 2 (by omega)
  have t14 := u16two hb 14 (by omega)
  have t18 := u16two hb 18 (by omega)
  conv => whnf
  (refine ⟨rfl, ⟨by omega, by omega⟩, fun x hx => ?_⟩; obtain rfl : b.getD 12 0 = x := getD_of hx; conv => whnf)
  refine ⟨by decide, ?_⟩
  conv => whnf
  simp only [eo]
  refine Fork.intro (fun q2 => ?_) (fun q2 => ?_)
  · rw [decide_eq_true (show n < 20 by have := of_decide_eq_true q2; omega)]
    conv => whnf
    exact seg0_le
  have q2 : ¬ n < 20 := by have := of_decide_eq_false q2; omega
  rw [decide_eq_false q2]
  conv => whnf
  refine Fork.intro (fun q3 => ?_) (fun q3 => ?_)
  · rw [decide_eq_true (show 65535 < b.length by have := of_decide_eq_true q3; omega)]
    conv => whnf
    exact seg0_le
  have q3 : ¬ 65535 < b.length := by have := of_decide_eq_false q3; omega
  rw [decide_eq_false q3]
  conv => whnf
  refine Fork.intro (fun q4 => ?_) (fun q4 => ?_)
  · rw [decide_eq_true (show b.length < n by have := of_decide_eq_true q4; omega)]
    conv => whnf
    exact seg0_le
  have q4 : ¬ b.length < n := by have := of_decide_eq_false q4; omega
  rw [decide_eq_false q4]
  dsimp only
  have hh := rHead_fn src dst 6 b.length h1 h2 (by omega)
  have ha := rAdd_fn (headL src dst 6 b.length) b (by rw [headL_len]; decide) (by omega)
  have ho := rOnes_fn (headL src dst 6 b.length ++ b) (bytA (headL_byt (by decide)) hb) (by rw [List.length_append, headL_len]; omega)
  have hg4 := rGet4_fn b 4 hb (by omega) (by omega)
  have hg8 := rGet4_fn b 8 hb (by omega) (by omega)
  have hc20 := rCut_fn b 20 (n - 20) (by omega) (by omega)
  have hcn := rCut_fn b n (b.length - n) (by omega) (by omega)
  have e20 : IntKind.i64.wrap ((n : Int) - 20) = ((n - 20 : Nat) : Int) := by rw [IntWalk.i64_in _ (by omega)]; omega
  have en : IntKind.i64.wrap ((b.length : Int) - (n : Int)) = ((b.length - n : Nat) : Int) := by rw [IntWalk.i64_in _ (by omega)]; omega
  have m12 : ((b.getD 12 0 : Nat) : Int).tmod 16 = ((b.getD 12 0 % 16 : Nat) : Int) := by rw [Int.tmod_eq_emod_of_nonneg (by omega)]; omega
  generalize headL src dst 6 b.length ++ b = HB at *
  generalize headL src dst 6 b.length = H at *
  generalize cutP b 20 (n - 20) = xo at *
  generalize cutP b n (b.length - n) = xd at *
  conv => whnf
  (refine CallVC.pure (hh) rfl ?_; rintro _ rfl; conv => whnf)
  (refine CallVC.pure (ha) rfl ?_; rintro _ rfl; conv => whnf)
  (refine CallVC.pure (ho) rfl ?_; rintro _ rfl; conv => whnf)
  refine Fork.intro (fun q5 => ?_) (fun q5 => ?_)
  · rw [decide_eq_false (show ¬ onesL HB = 65535 by have := ndT q5; omega)]
    conv => whnf
    exact seg0_le
  have q5 : onesL HB = 65535 := by have := ndF q5; omega
  rw [decide_eq_true q5]
  conv => whnf
  (refine ⟨rfl, ⟨by omega, by omega⟩, fun x hx => ?_⟩; obtain rfl : b.getD 0 0 = x := getD_of hx; conv => whnf)
  (refine ⟨rfl, ⟨by omega, by omega⟩, fun x hx => ?_⟩; obtain rfl : b.getD 1 0 = x := getD_of hx; conv => whnf)
  (refine ⟨rfl, ⟨by omega, by omega⟩, fun x hx => ?_⟩; obtain rfl : b.getD 2 0 = x := getD_of hx; conv => whnf)
  (refine ⟨rfl, ⟨by omega, by omega⟩, fun x hx => ?_⟩; obtain rfl : b.getD 3 0 = x := getD_of hx; conv => whnf)
  (refine ⟨rfl, ⟨by omega, by omega⟩, fun x hx => ?_⟩; obtain rfl : b.getD 12 0 = x := getD_of hx; conv => whnf)
  refine ⟨by decide, ?_⟩
  conv => whnf
  (refine ⟨rfl, ⟨by omega, by omega⟩, fun x hx => ?_⟩; obtain rfl : b.getD 13 0 = x := getD_of hx; conv => whnf)
  (refine ⟨rfl, ⟨by omega, by omega⟩, fun x hx => ?_⟩; obtain rfl : b.getD 14 0 = x := getD_of hx; conv => whnf)
  (refine ⟨rfl, ⟨by omega, by omega⟩, fun x hx => ?_⟩; obtain rfl : b.getD 15 0 = x := getD_of hx; conv => whnf)
  (refine ⟨rfl, ⟨by omega, by omega⟩, fun x hx => ?_⟩; obtain rfl : b.getD 18 0 = x := getD_of hx; conv => whnf)
  (refine ⟨rfl, ⟨by omega, by omega⟩, fun x hx => ?_⟩; obtain rfl : b.getD 19 0 = x := getD_of hx; conv => whnf)
  simp only [t0, t2, t14, t18, m12]
  conv => whnf
  (refine CallVC.pure (hg4) rfl ?_; rintro _ rfl; conv => whnf)
  (refine CallVC.pure (hg8) rfl ?_; rintro _ rfl; conv => whnf)
  rw [e20]
  (refine CallVC.pure (hc20) rfl ?_; rintro _ rfl; conv => whnf)
  rw [en]
  (refine CallVC.pure (hcn) rfl ?_; rintro _ rfl; conv => whnf)
  exact DLe.refl _
end Go.Proofs.YtgodclgcfpmloaaGreatDoor.V
namespace Go.Proofs.YtgodclgcfpmloaaGreatDoor.V
open Go.RowKit
attribute [local irreducible] Fn FnN FnR OpVC DLe

def pkt0 : Pkt := ⟨0, 0, false, false, 0, 0, 0, 0, 0, [], []⟩
abbrev pktR (r : Pkt × Int) : D := .tup [.agg (pktD r.1), intD r.2]
theorem pkt0_le {e : Int} : DLe (.tup [.agg [u8D 0, u16D 0, .v (.bool false), .v (.bool false), u16D 0, u8D 0, u8D 0, u32D 0, u32D 0, .v (.slice none 0 0), .v (.slice none 0 0)], intD e]) (pktR (pkt0, e)) :=
  dleTup ⟨dleAgg ⟨DLe.refl _, DLe.refl _, DLe.refl _, DLe.refl _, DLe.refl _, DLe.refl _, DLe.refl _, DLe.refl _, DLe.refl _, DLe.nil _ _, DLe.nil _ _, trivial⟩, DLe.refl _, trivial⟩
def sizeP (b : List Nat) : Nat := (b.getD 0 0 - 64) * 4
def badP (b : List Nat) : Int := match decide (b.length < 20) with
  | true => 4
  | false => match decide (b.getD 0 0 < 69) with
    | true => 3
    | false => match decide (79 < b.getD 0 0) with
      | true => 3
      | false => match decide (b.length < sizeP b) with
        | true => 4
        | false => match decide (onesL (b.take (sizeP b)) = 65535) with
          | false => 5
          | true => match decide (32768 ≤ get16 b 6) with
            | true => 3
            | false => match decide (get16 b 2 < sizeP b) with
              | true => 3
              | false => match decide (b.length < get16 b 2) with
                | true => 4
                | false => 0
def pktP (b : List Nat) : Pkt := ⟨b.getD 1 0, get16 b 4, decide (get16 b 6 / 16384 % 2 = 1), decide (get16 b 6 / 8192 % 2 = 1), get16 b 6 % 8192, b.getD 8 0, b.getD 9 0, get32 b 12, get32 b 16, cutP b 20 (sizeP b - 20), cutP b (sizeP b) (get16 b 2 - sizeP b)⟩
def parseP (b : List Nat) : Pkt × Int := match decide (badP b = 0) with
  | true => (pktP b, 0)
  | false => (pkt0, badP b)
structure GoodP (b : List Nat) : Prop where
  l20 : 20 ≤ b.length
  b0 : 69 ≤ b.getD 0 0
  b1 : b.getD 0 0 ≤ 79
  sz : sizeP b ≤ b.length
  ones : onesL (b.take (sizeP b)) = 65535
  word : get16 b 6 < 32768
  all : sizeP b ≤ get16 b 2
  fits : get16 b 2 ≤ b.length
theorem goodP_bad {b : List Nat} (h : GoodP b) : badP b = 0 := by
  unfold badP
  rw [decide_eq_false (by have := h.l20; omega), decide_eq_false (by have := h.b0; omega), decide_eq_false (by have := h.b1; omega), decide_eq_false (by have := h.sz; omega), decide_eq_true h.ones, decide_eq_false (by have := h.word; omega), decide_eq_false (by have := h.all; omega), decide_eq_false (by have := h.fits; omega)]
theorem badP_good {b : List Nat} (h : badP b = 0) : GoodP b := by
  unfold badP at h
  split at h
  · exact absurd h (by decide)
  rename_i h1
  split at h
  · exact absurd h (by decide)
  rename_i h2
  split at h
  · exact absurd h (by decide)
  rename_i h3
  split at h
  · exact absurd h (by decide)
  rename_i h4
  split at h
  · exact absurd h (by decide)
  rename_i h5
  split at h
  · exact absurd h (by decide)
  rename_i h6
  split at h
  · exact absurd h (by decide)
  rename_i h7
  split at h
  · exact absurd h (by decide)
  rename_i h8
  have h1 := of_decide_eq_false h1
  have h2 := of_decide_eq_false h2
  have h3 := of_decide_eq_false h3
  have h4 := of_decide_eq_false h4
  have h6 := of_decide_eq_false h6
  have h7 := of_decide_eq_false h7
  have h8 := of_decide_eq_false h8
  exact ⟨by omega, by omega, by omega, by omega, of_decide_eq_true h5, by omega, by omega, by omega⟩
def headsP (b : List Nat) : Nat × Nat × Int := match decide (badP b = 0) with
  | true => (sizeP b, get16 b 2, 0)
  | false => (0, 0, badP b)
theorem headsP_bad {b : List Nat} {e : Int} (h : badP b = e) (he : e ≠ 0) : headsP b = (0, 0, e) := by unfold headsP; rw [h, decide_eq_false he]
theorem parseP_bad {b : List Nat} {e : Int} (h : badP b = e) (he : e ≠ 0) : parseP b = (pkt0, e) := by unfold parseP; rw [h, decide_eq_false he]
theorem headsP_good {b : List Nat} (h : GoodP b) : headsP b = (sizeP b, get16 b 2, 0) := by unfold headsP; rw [decide_eq_true (goodP_bad h)]
theorem parseP_good {b : List Nat} (h : GoodP b) : parseP b = (pktP b, 0) := by unfold parseP; rw [decide_eq_true (goodP_bad h)]
abbrev headsD (r : Nat × Nat × Int) : D := .tup [intD r.1, intD r.2.1, intD r.2.2]
set_option maxHeartbeats 2000000 in
theorem heads_fn (b : List Nat) (hb : Byt b) (hl : b.length ≤ 100000) : Fn Tryz.prog 91 [octR b] fun d => d = headsD (headsP b) := by
  refine fnOf [] Tryz.func91 rfl (by kernel_rfl) (Nat.le_of_ble_eq_true rfl) ?_
  have h2 := octGet16_fn b 2 hb (by omega) (by decide)
  have h6 := octGet16_fn b 6 hb (by omega) (by decide)
  have hb0 := getD_lt hb 0
  have key := @headsP_bad b
  have g2 := get16_lt b 2
  have g6 := get16_lt b 6
  have bad : ∀ e : Int, e ≠ 0 → badP b = e → (D.tup [intD 0, intD 0, intD e]) = headsD (headsP b) := fun e he h => by rw [headsP_bad h he]; rfl
  conv => whnf
  refine Fork.intro (fun q1 => ?_) (fun q1 => ?_)
  · have q1 : b.length < 20 := by have := of_decide_eq_true q1; omega
    have hbad : badP b = 4 := by unfold badP; rw [decide_eq_true q1]
    conv => whnf
    exact bad 4 (by decide) hbad
  have q1 : ¬ b.length < 20 := by have := of_decide_eq_false q1; omega
  conv => whnf
  (refine ⟨rfl, ⟨by omega, by omega⟩, fun x hx => ?_⟩; obtain rfl : b.getD 0 0 = x := getD_of hx; conv => whnf)
  refine Fork.intro (fun q2 => ?_) (fun q2 => ?_)
  · have q2 : b.getD 0 0 < 69 := by have := of_decide_eq_true q2; omega
    have hbad : badP b = 3 := by unfold badP; rw [decide_eq_false q1, decide_eq_true q2]
    conv => whnf
    exact bad 3 (by decide) hbad
  have q2 : ¬ b.getD 0 0 < 69 := by have := of_decide_eq_false q2; omega
  conv => whnf
  (refine ⟨rfl, ⟨by omega, by omega⟩, fun x hx => ?_⟩; obtain rfl : b.getD 0 0 = x := getD_of hx; conv => whnf)
  refine Fork.intro (fun q3 => ?_) (fun q3 => ?_)
  · have q3 : 79 < b.getD 0 0 := by have := of_decide_eq_true q3; omega
    have hbad : badP b = 3 := by unfold badP; rw [decide_eq_false q1, decide_eq_false q2, decide_eq_true q3]
    conv => whnf
    exact bad 3 (by decide) hbad
  have q3 : ¬ 79 < b.getD 0 0 := by have := of_decide_eq_false q3; omega
  have es : IntKind.i64.wrap (4 * IntKind.i64.wrap (IntKind.u8.wrap (((b.getD 0 0 : Nat) : Int) - 64))) = ((sizeP b : Nat) : Int) := by
    unfold sizeP
    rw [show (((b.getD 0 0 : Nat) : Int) - 64) = ((b.getD 0 0 - 64 : Nat) : Int) by omega, u8_small (by omega), IntWalk.i64_in ((b.getD 0 0 - 64 : Nat) : Int) (by omega), IntWalk.i64_in _ (by omega)]
    omega
  have hsz : 20 ≤ sizeP b ∧ sizeP b ≤ 60 := by unfold sizeP; omega
  conv => whnf
  (refine ⟨rfl, ⟨by omega, by omega⟩, fun x hx => ?_⟩; obtain rfl : b.getD 0 0 = x := getD_of hx; conv => whnf)
  rw [es]
  refine Fork.intro (fun q4 => ?_) (fun q4 => ?_)
  · have q4 : b.length < sizeP b := by have := of_decide_eq_true q4; omega
    have hbad : badP b = 4 := by unfold badP; rw [decide_eq_false q1, decide_eq_false q2, decide_eq_false q3, decide_eq_true q4]
    conv => whnf
    exact bad 4 (by decide) hbad
  have q4 : ¬ b.length < sizeP b := by have := of_decide_eq_false q4; omega
  have hr := rightA_fn [[octR (b.take (sizeP b))]] (b.take (sizeP b)) (join1_fn _ (by rw [List.length_take]; omega)) rfl (hb.take _) (by rw [List.length_take]; omega)
  conv => whnf
  refine ⟨rfl, ⟨by omega, by omega, by omega⟩, ?_⟩
  conv => whnf
  refine ⟨by decide, ?_⟩
  conv => whnf
  (refine CallVC.pure (hr) rfl ?_; rintro _ rfl; conv => whnf)
  cases q5 : decide (onesL (b.take (sizeP b)) = 65535) with
  | false =>
    have hbad : badP b = 5 := by unfold badP; rw [decide_eq_false q1, decide_eq_false q2, decide_eq_false q3, decide_eq_false q4, q5]
    conv => whnf
    exact bad 5 (by decide) hbad
  | true =>
    conv => whnf
    (refine CallVC.pure (h2) rfl ?_; rintro _ rfl; conv => whnf)
    (refine CallVC.pure (h6) rfl ?_; rintro _ rfl; conv => whnf)
    refine Fork.intro (fun q6 => ?_) (fun q6 => ?_)
    · have q6 : 32768 ≤ get16 b 6 := by have := of_decide_eq_true q6; omega
      have hbad : badP b = 3 := by unfold badP; rw [decide_eq_false q1, decide_eq_false q2, decide_eq_false q3, decide_eq_false q4, q5, decide_eq_true q6]
      conv => whnf
      exact bad 3 (by decide) hbad
    have q6 : ¬ 32768 ≤ get16 b 6 := by have := of_decide_eq_false q6; omega
    have ea := u16_i64 (get16 b 2) g2
    conv => whnf
    rw [ea]
    refine Fork.intro (fun q7 => ?_) (fun q7 => ?_)
    · have q7 : get16 b 2 < sizeP b := by have := of_decide_eq_true q7; omega
      have hbad : badP b = 3 := by unfold badP; rw [decide_eq_false q1, decide_eq_false q2, decide_eq_false q3, decide_eq_false q4, q5, decide_eq_false q6, decide_eq_true q7]
      conv => whnf
      exact bad 3 (by decide) hbad
    have q7 : ¬ get16 b 2 < sizeP b := by have := of_decide_eq_false q7; omega
    conv => whnf
    rw [ea]
    refine Fork.intro (fun q8 => ?_) (fun q8 => ?_)
    · have q8 : b.length < get16 b 2 := by have := of_decide_eq_true q8; omega
      have hbad : badP b = 4 := by unfold badP; rw [decide_eq_false q1, decide_eq_false q2, decide_eq_false q3, decide_eq_false q4, q5, decide_eq_false q6, decide_eq_false q7, decide_eq_true q8]
      conv => whnf
      exact bad 4 (by decide) hbad
    have q8 : ¬ b.length < get16 b 2 := by have := of_decide_eq_false q8; omega
    have hg : GoodP b := ⟨by omega, by omega, by omega, by omega, of_decide_eq_true q5, by omega, by omega, by omega⟩
    conv => whnf
    rw [ea, headsP_good hg]
    rfl
theorem and_pow (n k : Nat) : decide (n &&& 2 ^ k = 0) = decide (n / 2 ^ k % 2 = 0) := by
  refine decide_eq_decide.2 ⟨fun h => ?_, fun h => ?_⟩
  · have h1 : (n &&& 2 ^ k).testBit k = n.testBit k := by rw [Nat.testBit_and, Nat.testBit_two_pow_self, Bool.and_true]
    rw [h, Nat.zero_testBit, Nat.testBit_eq_decide_div_mod_eq] at h1
    have := of_decide_eq_false h1.symm
    omega
  · refine Nat.eq_of_testBit_eq fun i => ?_
    rw [Nat.testBit_and, Nat.testBit_two_pow, Nat.zero_testBit]
    by_cases hi : k = i
    · subst hi
      rw [Nat.testBit_eq_decide_div_mod_eq, decide_eq_false (by omega), Bool.false_and]
    · rw [decide_eq_false hi, Bool.and_false]
theorem bit_word (n k : Nat) (hn : n < 65536) (hk : k < 65536) (ha : decide (n &&& k = 0) = decide (n / k % 2 = 0)) : (!decide (IntKind.u16.wrap (((BitVec.ofInt IntKind.u16.bits (n : Int) &&& BitVec.ofInt IntKind.u16.bits (k : Int)).toNat : Nat) : Int) = 0)) = decide (n / k % 2 = 1) := by
  have h : (BitVec.ofInt 16 (n : Int) &&& BitVec.ofInt 16 (k : Int)).toNat = n &&& k := by
    rw [BitVec.toNat_and, BitVec.toNat_ofInt, BitVec.toNat_ofInt]
    congr 1 <;> omega
  have hle : n &&& k ≤ n := Nat.and_le_left
  rw [show (BitVec.ofInt IntKind.u16.bits (n : Int) &&& BitVec.ofInt IntKind.u16.bits (k : Int)).toNat = n &&& k from h, u16_wrap]
  have ha := decide_eq_decide.1 ha
  rw [← decide_not]
  exact decide_eq_decide.2 (by omega)
set_option maxHeartbeats 4000000 in
theorem ipParse_fn (b : List Nat) (hb : Byt b) (hl : b.length ≤ 100000) : Fn Tryz.prog 58 [octR b] fun d => d = pktR (parseP b) := by
  refine FnX (fnOf [] Tryz.func58 rfl (by kernel_rfl) (Nat.le_of_ble_eq_true rfl) ?_)
  have hh := heads_fn b hb hl
  by_cases hbad : badP b = 0
  · have hg := badP_good hbad
    have := hg.l20
    have := hg.sz
    have := hg.fits
    have := hg.all
    have := hg.word
    have := hg.b0
    have := hg.b1
    have hsz : 20 ≤ sizeP b ∧ sizeP b ≤ 60 := by unfold sizeP; omega
    rw [headsP_good hg] at hh
    rw [parseP_good hg]
    have h6 := octGet16_fn b 6 hb (by omega) (by decide)
    have h4 := octGet16_fn b 4 hb (by omega) (by decide)
    have h12 := octGet32_fn b 12 hb (by omega) (by decide)
    have h16 := octGet32_fn b 16 hb (by omega) (by decide)
    have hc1 := octCut_fn b 20 (sizeP b - 20) (by omega) (by decide) (by omega)
    have hc2 := octCut_fn b (sizeP b) (get16 b 2 - sizeP b) (by omega) (by omega) (by omega)
    have e1 : IntKind.i64.wrap ((sizeP b : Int) - 20) = ((sizeP b - 20 : Nat) : Int) := by rw [IntWalk.i64_in _ (by omega)]; omega
    have e2 : IntKind.i64.wrap ((get16 b 2 : Int) - (sizeP b : Int)) = ((get16 b 2 - sizeP b : Nat) : Int) := by rw [IntWalk.i64_in _ (by omega)]; omega
    have w1 : (!decide (IntKind.u16.wrap (((BitVec.ofInt IntKind.u16.bits ((get16 b 6 : Nat) : Int) &&& BitVec.ofInt IntKind.u16.bits 16384).toNat : Nat) : Int) = 0)) = decide (get16 b 6 / 16384 % 2 = 1) := bit_word (get16 b 6) 16384 (by omega) (by decide) (and_pow _ 14)
    have w2 : (!decide (IntKind.u16.wrap (((BitVec.ofInt IntKind.u16.bits ((get16 b 6 : Nat) : Int) &&& BitVec.ofInt IntKind.u16.bits 8192).toNat : Nat) : Int) = 0)) = decide (get16 b 6 / 8192 % 2 = 1) := bit_word (get16 b 6) 8192 (by omega) (by decide) (and_pow _ 13)
    have w3 : ((get16 b 6 : Nat) : Int).tmod 8192 = ((get16 b 6 % 8192 : Nat) : Int) := by rw [Int.tmod_eq_emod_of_nonneg (by omega)]; omega
    unfold pktP
    generalize cutP b 20 (sizeP b - 20) = xo at *
    generalize cutP b (sizeP b) (get16 b 2 - sizeP b) = xd at *
    generalize sizeP b = n at *
    conv => whnf
    (refine CallVC.pure (hh) rfl ?_; rintro _ rfl; conv => whnf)
    (refine ⟨rfl, ⟨by omega, by omega⟩, fun x hx => ?_⟩; obtain rfl : b.getD 1 0 = x := getD_of hx; conv => whnf)
    (refine ⟨rfl, ⟨by omega, by omega⟩, fun x hx => ?_⟩; obtain rfl : b.getD 8 0 = x := getD_of hx; conv => whnf)
    (refine ⟨rfl, ⟨by omega, by omega⟩, fun x hx => ?_⟩; obtain rfl : b.getD 9 0 = x := getD_of hx; conv => whnf)
    (refine CallVC.pure (h6) rfl ?_; rintro _ rfl; conv => whnf)
    (refine CallVC.pure (h4) rfl ?_; rintro _ rfl; conv => whnf)
    refine ⟨by decide, ?_⟩
    conv => whnf
    (refine CallVC.pure (h12) rfl ?_; rintro _ rfl; conv => whnf)
    (refine CallVC.pure (h16) rfl ?_; rintro _ rfl; conv => whnf)
    rw [e1]
    (refine CallVC.pure (hc1) rfl ?_; rintro _ rfl; conv => whnf)
    rw [e2]
    (refine CallVC.pure (hc2) rfl ?_; rintro _ rfl; conv => whnf)
    simp only [w1, w2, w3]
    exact DLe.refl _
  · have hbb := headsP_bad rfl hbad
    rw [hbb] at hh
    rw [parseP_bad rfl hbad]
    generalize badP b = e at *
    conv => whnf
    (refine CallVC.pure (hh) rfl ?_; rintro _ rfl; conv => whnf)
    refine Fork.intro (fun _ => ?_) (fun q => absurd (ndF q) hbad)
    conv => whnf
    exact pkt0_le

/-! ### The document's -/
set_option maxHeartbeats 4000000 in
theorem rParseP_fn (b : List Nat) (hb : Byt b) (hl : b.length ≤ 100000) : Fn Tryz.prog 20 [octR b] fun d => d = pktR (parseP b) := by
  refine FnX (fnOf [] Tryz.func20 rfl (by kernel_rfl) (Nat.le_of_ble_eq_true rfl) ?_)
  have hb0 := getD_lt hb 0
  have g2 := get16_lt b 2
  have g6 := get16_lt b 6
  have bad : ∀ e : Int, e ≠ 0 → badP b = e → pktR (parseP b) = pktR (pkt0, e) := fun e he h => by rw [parseP_bad h he]
  conv => whnf
  refine Fork.intro (fun q1 => ?_) (fun q1 => ?_)
  · have q1 : b.length < 20 := by have := of_decide_eq_true q1; omega
    have hbad : badP b = 4 := by unfold badP; rw [decide_eq_true q1]
    rw [bad 4 (by decide) hbad]
    conv => whnf
    exact pkt0_le
  have q1 : ¬ b.length < 20 := by have := of_decide_eq_false q1; omega
  have t2 := i64two hb 2 (by omega)
  have t6 := i64two hb 6 (by omega)
  have t4 := u16two hb 4 (by omega)
  have es : IntKind.i64.wrap (IntKind.i64.wrap (IntKind.i64.wrap ((b.getD 0 0 : Nat) : Int) - 64) * 4) = (((b.getD 0 0 : Nat) : Int) - 64) * 4 := by
    rw [IntWalk.i64_in ((b.getD 0 0 : Nat) : Int) (by omega), IntWalk.i64_in (((b.getD 0 0 : Nat) : Int) - 64) (by omega), IntWalk.i64_in _ (by omega)]
  conv => whnf
  (refine ⟨rfl, ⟨by omega, by omega⟩, fun x hx => ?_⟩; obtain rfl : b.getD 0 0 = x := getD_of hx; conv => whnf)
  simp only [es]
  refine Fork.intro (fun q2 => ?_) (fun q2 => ?_)
  · have q2 : b.getD 0 0 < 69 := by have := of_decide_eq_true q2; omega
    have hbad : badP b = 3 := by unfold badP; rw [decide_eq_false q1, decide_eq_true q2]
    rw [bad 3 (by decide) hbad]
    conv => whnf
    exact pkt0_le
  have q2 : ¬ b.getD 0 0 < 69 := by have := of_decide_eq_false q2; omega
  have ez : (((b.getD 0 0 : Nat) : Int) - 64) * 4 = ((sizeP b : Nat) : Int) := by unfold sizeP; omega
  simp only [ez]
  conv => whnf
  refine Fork.intro (fun q3 => ?_) (fun q3 => ?_)
  · have q3 : 79 < b.getD 0 0 := by have := of_decide_eq_true q3; unfold sizeP at this; omega
    have hbad : badP b = 3 := by unfold badP; rw [decide_eq_false q1, decide_eq_false q2, decide_eq_true q3]
    rw [bad 3 (by decide) hbad]
    conv => whnf
    exact pkt0_le
  have q3 : ¬ 79 < b.getD 0 0 := by have := of_decide_eq_false q3; unfold sizeP at this; omega
  have hsz : 20 ≤ sizeP b ∧ sizeP b ≤ 60 := by unfold sizeP; omega
  conv => whnf
  refine Fork.intro (fun q4 => ?_) (fun q4 => ?_)
  · have q4 : b.length < sizeP b := by have := of_decide_eq_true q4; omega
    have hbad : badP b = 4 := by unfold badP; rw [decide_eq_false q1, decide_eq_false q2, decide_eq_false q3, decide_eq_true q4]
    rw [bad 4 (by decide) hbad]
    conv => whnf
    exact pkt0_le
  have q4 : ¬ b.length < sizeP b := by have := of_decide_eq_false q4; omega
  have hr := rOnes_fn (b.take (sizeP b)) (hb.take _) (by rw [List.length_take]; omega)
  conv => whnf
  refine ⟨rfl, ⟨by omega, by omega, by omega⟩, ?_⟩
  conv => whnf
  (refine CallVC.pure (hr) rfl ?_; rintro _ rfl; conv => whnf)
  refine Fork.intro (fun q5 => ?_) (fun q5 => ?_)
  · have q5 : ¬ onesL (b.take (sizeP b)) = 65535 := by have := ndT q5; omega
    have hbad : badP b = 5 := by unfold badP; rw [decide_eq_false q1, decide_eq_false q2, decide_eq_false q3, decide_eq_false q4, decide_eq_false q5]
    rw [bad 5 (by decide) hbad]
    conv => whnf
    exact pkt0_le
  have q5 : onesL (b.take (sizeP b)) = 65535 := by have := ndF q5; omega
  conv => whnf
  (refine ⟨rfl, ⟨by omega, by omega⟩, fun x hx => ?_⟩; obtain rfl : b.getD 2 0 = x := getD_of hx; conv => whnf)
  (refine ⟨rfl, ⟨by omega, by omega⟩, fun x hx => ?_⟩; obtain rfl : b.getD 3 0 = x := getD_of hx; conv => whnf)
  rw [t2]
  (refine ⟨rfl, ⟨by omega, by omega⟩, fun x hx => ?_⟩; obtain rfl : b.getD 6 0 = x := getD_of hx; conv => whnf)
  (refine ⟨rfl, ⟨by omega, by omega⟩, fun x hx => ?_⟩; obtain rfl : b.getD 7 0 = x := getD_of hx; conv => whnf)
  simp only [t6]
  refine Fork.intro (fun q6 => ?_) (fun q6 => ?_)
  · have q6 : 32768 ≤ get16 b 6 := by have := of_decide_eq_true q6; omega
    have hbad : badP b = 3 := by unfold badP; rw [decide_eq_false q1, decide_eq_false q2, decide_eq_false q3, decide_eq_false q4, decide_eq_true q5, decide_eq_true q6]
    rw [bad 3 (by decide) hbad]
    conv => whnf
    exact pkt0_le
  have q6 : ¬ 32768 ≤ get16 b 6 := by have := of_decide_eq_false q6; omega
  conv => whnf
  refine Fork.intro (fun q7 => ?_) (fun q7 => ?_)
  · have q7 : get16 b 2 < sizeP b := by have := of_decide_eq_true q7; omega
    have hbad : badP b = 3 := by unfold badP; rw [decide_eq_false q1, decide_eq_false q2, decide_eq_false q3, decide_eq_false q4, decide_eq_true q5, decide_eq_false q6, decide_eq_true q7]
    rw [bad 3 (by decide) hbad]
    conv => whnf
    exact pkt0_le
  have q7 : ¬ get16 b 2 < sizeP b := by have := of_decide_eq_false q7; omega
  conv => whnf
  refine Fork.intro (fun q8 => ?_) (fun q8 => ?_)
  · have q8 : b.length < get16 b 2 := by have := of_decide_eq_true q8; omega
    have hbad : badP b = 4 := by unfold badP; rw [decide_eq_false q1, decide_eq_false q2, decide_eq_false q3, decide_eq_false q4, decide_eq_true q5, decide_eq_false q6, decide_eq_false q7, decide_eq_true q8]
    rw [bad 4 (by decide) hbad]
    conv => whnf
    exact pkt0_le
  have q8 : ¬ b.length < get16 b 2 := by have := of_decide_eq_false q8; omega
  have hg : GoodP b := ⟨by omega, by omega, by omega, by omega, q5, by omega, by omega, by omega⟩
  have h12 := rGet4_fn b 12 hb (by omega) (by omega)
  have h16 := rGet4_fn b 16 hb (by omega) (by omega)
  have hc1 := rCut_fn b 20 (sizeP b - 20) (by omega) (by omega)
  have hc2 := rCut_fn b (sizeP b) (get16 b 2 - sizeP b) (by omega) (by omega)
  have e1 : IntKind.i64.wrap ((sizeP b : Int) - 20) = ((sizeP b - 20 : Nat) : Int) := by rw [IntWalk.i64_in _ (by omega)]; omega
  have e2 : IntKind.i64.wrap ((get16 b 2 : Int) - (sizeP b : Int)) = ((get16 b 2 - sizeP b : Nat) : Int) := by rw [IntWalk.i64_in _ (by omega)]; omega
  have w1 : decide (16384 ≤ ((get16 b 6 : Nat) : Int)) = decide (get16 b 6 / 16384 % 2 = 1) := decide_eq_decide.2 (by omega)
  have w2 : decide ((IntKind.i64.wrap (((get16 b 6 : Nat) : Int).tdiv 8192)).tmod 2 = 1) = decide (get16 b 6 / 8192 % 2 = 1) := by
    rw [Int.tdiv_eq_ediv_of_nonneg (by omega), IntWalk.i64_in _ (by omega), Int.tmod_eq_emod_of_nonneg (by omega)]
    exact decide_eq_decide.2 (by omega)
  have w3 : IntKind.u16.wrap (((get16 b 6 : Nat) : Int).tmod 8192) = ((get16 b 6 % 8192 : Nat) : Int) := by
    rw [Int.tmod_eq_emod_of_nonneg (by omega), u16_wrap]; omega
  rw [parseP_good hg]
  unfold pktP
  generalize cutP b 20 (sizeP b - 20) = xo at *
  generalize cutP b (sizeP b) (get16 b 2 - sizeP b) = xd at *
  generalize sizeP b = n at *
  conv => whnf
  (refine ⟨rfl, ⟨by omega, by omega⟩, fun x hx => ?_⟩; obtain rfl : b.getD 1 0 = x := getD_of hx; conv => whnf)
  (refine ⟨rfl, ⟨by omega, by omega⟩, fun x hx => ?_⟩; obtain rfl : b.getD 4 0 = x := getD_of hx; conv => whnf)
  (refine ⟨rfl, ⟨by omega, by omega⟩, fun x hx => ?_⟩; obtain rfl : b.getD 5 0 = x := getD_of hx; conv => whnf)
  refine ⟨by decide, ?_⟩
  conv => whnf
  refine ⟨by decide, ?_⟩
  conv => whnf
  refine ⟨by decide, ?_⟩
  conv => whnf
  (refine ⟨rfl, ⟨by omega, by omega⟩, fun x hx => ?_⟩; obtain rfl : b.getD 8 0 = x := getD_of hx; conv => whnf)
  (refine ⟨rfl, ⟨by omega, by omega⟩, fun x hx => ?_⟩; obtain rfl : b.getD 9 0 = x := getD_of hx; conv => whnf)
  (refine CallVC.pure (h12) rfl ?_; rintro _ rfl; conv => whnf)
  (refine CallVC.pure (h16) rfl ?_; rintro _ rfl; conv => whnf)
  rw [e1]
  (refine CallVC.pure (hc1) rfl ?_; rintro _ rfl; conv => whnf)
  rw [e2]
  (refine CallVC.pure (hc2) rfl ?_; rintro _ rfl; conv => whnf)
  simp only [w1, w2, w3, t4]
  exact DLe.refl _
end Go.Proofs.YtgodclgcfpmloaaGreatDoor.V
namespace Go.Proofs.YtgodclgcfpmloaaGreatDoor.V
open Go.RowKit
attribute [local irreducible] Fn FnN FnR OpVC DLe

set_option maxHeartbeats 1000000 in
theorem rParseI_fn (b : List Nat) (hb : Byt b) (hl : b.length ≤ 100000) : Fn Tryz.prog 65 [octR b] fun d => d = icmR (parseI b) := by
  refine FnX (fnOf [] Tryz.func65 rfl (by kernel_rfl) (Nat.le_of_ble_eq_true rfl) ?_)
  have hr := rOnes_fn b hb (by omega)
  unfold parseI
  conv => whnf
  refine Fork.intro (fun q1 => ?_) (fun q1 => ?_)
  · rw [decide_eq_true (show b.length < 8 by have := of_decide_eq_true q1; omega)]
    conv => whnf
    exact icm0_le
  have q1 : ¬ b.length < 8 := by have := of_decide_eq_false q1; omega
  rw [decide_eq_false q1]
  dsimp only
  have hg := rGet4_fn b 4 hb (by omega) (by omega)
  have hc := rCut_fn b 8 (b.length - 8) (by omega) (by omega)
  have e8 : IntKind.i64.wrap ((b.length : Int) - 8) = ((b.length - 8 : Nat) : Int) := by rw [IntWalk.i64_in _ (by omega)]; omega
  generalize cutP b 8 (b.length - 8) = xd at *
  generalize get32 b 4 = x4 at *
  conv => whnf
  (refine CallVC.pure (hr) rfl ?_; rintro _ rfl; conv => whnf)
  refine Fork.intro (fun q2 => ?_) (fun q2 => ?_)
  · rw [decide_eq_false (show ¬ onesL b = 65535 by have := ndT q2; omega)]
    conv => whnf
    exact icm0_le
  rw [decide_eq_true (show onesL b = 65535 by have := ndF q2; omega)]
  conv => whnf
  (refine ⟨rfl, ⟨by omega, by omega⟩, fun x hx => ?_⟩; obtain rfl : b.getD 0 0 = x := getD_of hx; conv => whnf)
  (refine ⟨rfl, ⟨by omega, by omega⟩, fun x hx => ?_⟩; obtain rfl : b.getD 1 0 = x := getD_of hx; conv => whnf)
  (refine CallVC.pure (hg) rfl ?_; rintro _ rfl; conv => whnf)
  rw [e8]
  (refine CallVC.pure (hc) rfl ?_; rintro _ rfl; conv => whnf)
  exact DLe.refl _

/-! ### Packets within packets -/
theorem pktP_size {b : List Nat} (h : GoodP b) : 20 + (pktP b).opts.length + (pktP b).data.length = get16 b 2 := by
  have := h.l20
  have := h.sz
  have := h.fits
  have := h.all
  have := h.b0
  have := h.b1
  have hsz : 20 ≤ sizeP b ∧ sizeP b ≤ 60 := by unfold sizeP; omega
  have h1 : (cutP b 20 (sizeP b - 20)).length = sizeP b - 20 := by
    unfold cutP
    rw [decide_eq_true (by omega)]
    show ((b.drop 20).take (sizeP b - 20)).length = _
    rw [List.length_take, List.length_drop]; omega
  have h2 : (cutP b (sizeP b) (get16 b 2 - sizeP b)).length = get16 b 2 - sizeP b := by
    unfold cutP
    rw [decide_eq_true (by omega)]
    show ((b.drop (sizeP b)).take (get16 b 2 - sizeP b)).length = _
    rw [List.length_take, List.length_drop]; omega
  show 20 + (cutP b 20 (sizeP b - 20)).length + (cutP b (sizeP b) (get16 b 2 - sizeP b)).length = _
  rw [h1, h2]; omega
theorem pkt0_ok : pkt0.ok := ⟨by decide, by decide, by decide, by decide, by decide, by decide, by decide, .nil, .nil⟩
theorem parseP_ok {b : List Nat} (hb : Byt b) : (parseP b).1.ok ∧ (parseP b).1.opts.length ≤ b.length ∧ (parseP b).1.data.length ≤ b.length := by
  unfold parseP
  split
  · exact ⟨⟨getD_lt hb _, get16_lt _ _, Nat.lt_of_lt_of_le (Nat.mod_lt _ (by decide)) (by decide), getD_lt hb _, getD_lt hb _, get32_lt _ _, get32_lt _ _, cutP_byt hb _ _, cutP_byt hb _ _⟩, cutP_len _ _ _, cutP_len _ _ _⟩
  · exact ⟨pkt0_ok, Nat.zero_le _, Nat.zero_le _⟩
def ownP (b : List Nat) : List Nat × Int := match decide (badP b = 0) with
  | true => (b.take (get16 b 2), 0)
  | false => ([], badP b)
theorem ownP_good {b : List Nat} (h : GoodP b) : ownP b = (b.take (get16 b 2), 0) := by unfold ownP; rw [decide_eq_true (goodP_bad h)]
theorem ownP_bad {b : List Nat} (h : ¬ badP b = 0) : ownP b = ([], badP b) := by unfold ownP; rw [decide_eq_false h]
theorem ownP_byt {b : List Nat} (hb : Byt b) : Byt (ownP b).1 ∧ (ownP b).1.length ≤ b.length := by
  unfold ownP
  split
  · exact ⟨hb.take _, by show (b.take _).length ≤ _; rw [List.length_take]; omega⟩
  · exact ⟨.nil, Nat.zero_le _⟩
def openP (p : Pkt) : List Nat × Int := match decide (p.proto = 4) with
  | false => ([], 3)
  | true => match p.mf || decide (0 < p.off) with
    | true => ([], 11)
    | false => ownP p.data
abbrev octsR (r : List Nat × Int) : D := .tup [octR r.1, intD r.2]
theorem oct0_le {e : Int} : DLe (.tup [.v (.slice none 0 0), intD e]) (octsR ([], e)) := dleTup ⟨DLe.nil _ _, DLe.refl _, trivial⟩
abbrev ownD (b : List Nat) : D := .tup [.agg (pktD (parseP b).1), octR (ownP b).1, intD (ownP b).2]
theorem own0_le {e : Int} : DLe (.tup [.agg [u8D 0, u16D 0, .v (.bool false), .v (.bool false), u16D 0, u8D 0, u8D 0, u32D 0, u32D 0, .v (.slice none 0 0), .v (.slice none 0 0)], .v (.slice none 0 0), intD e]) (.tup [.agg (pktD pkt0), octR [], intD e]) :=
  dleTup ⟨dleAgg ⟨DLe.refl _, DLe.refl _, DLe.refl _, DLe.refl _, DLe.refl _, DLe.refl _, DLe.refl _, DLe.refl _, DLe.refl _, DLe.nil _ _, DLe.nil _ _, trivial⟩, DLe.nil _ _, DLe.refl _, trivial⟩
set_option maxHeartbeats 1000000 in
theorem tunOwn_fn (b : List Nat) (hb : Byt b) (hl : b.length ≤ 100000) : Fn Tryz.prog 121 [octR b] fun d => d = ownD b := by
  refine FnX (fnOf [(4, [0, 1, 3, 4, 5, 2, 6, 7, 8, 9, 10, 11, 12])] Tryz.func121 rfl (by kernel_rfl) (Nat.le_of_ble_eq_true rfl) ?_)
  have hp := ipParse_fn b hb hl
  by_cases hbad : badP b = 0
  · have hg := badP_good hbad
    have hsz := pktP_size hg
    have hf := hg.fits
    obtain ⟨hok, _, _⟩ := parseP_ok hb
    have hc := octCut_fn b 0 (get16 b 2) (by omega) (by decide) (by omega)
    rw [parseP_good hg] at hp hok
    unfold ownD
    rw [ownP_good hg, parseP_good hg]
    have hcl : cutP b 0 (get16 b 2) = b.take (get16 b 2) := by
      unfold cutP
      rw [decide_eq_true (by omega)]; rfl
    rw [hcl] at hc
    have hs : Fn Tryz.prog 129 [.agg (pktD (pktP b))] fun d => d = intD ((20 + (pktP b).opts.length : Nat) : Int) := by
      refine fnOf [] Tryz.func129 rfl (by kernel_rfl) (Nat.le_of_ble_eq_true rfl) ?_
      conv => whnf
      refine congrArg (fun n => D.v (.int .i64 n)) ?_
      rw [IntWalk.i64_in _ (by omega)]; omega
    have e : IntKind.i64.wrap (((20 + (pktP b).opts.length : Nat) : Int) + (((pktP b).data.length : Nat) : Int)) = ((get16 b 2 : Nat) : Int) := by rw [IntWalk.i64_in _ (by omega)]; omega
    generalize pktP b = p at *
    conv => whnf
    (refine CallVC.pure (hp) rfl ?_; rintro _ rfl; conv => whnf)
    (refine CallVC.pure (hs) rfl ?_; rintro _ rfl; conv => whnf)
    rw [e]
    (refine CallVC.pure (hc) rfl ?_; rintro _ rfl; conv => whnf)
    exact DLe.refl _
  · unfold ownD
    rw [ownP_bad hbad, parseP_bad rfl hbad]
    rw [parseP_bad rfl hbad] at hp
    generalize badP b = e at *
    conv => whnf
    (refine CallVC.pure (hp) rfl ?_; rintro _ rfl; conv => whnf)
    refine Fork.intro (fun _ => ?_) (fun q => absurd (ndF q) hbad)
    conv => whnf
    exact own0_le
set_option maxHeartbeats 1000000 in
theorem tunOpen_fn (p : Pkt) (h : p.ok) (hl : p.data.length ≤ 100000) : Fn Tryz.prog 111 [.agg (pktD p)] fun d => d = octsR (openP p) := by
  refine FnX (fnOf [] Tryz.func111 rfl (by kernel_rfl) (Nat.le_of_ble_eq_true rfl) ?_)
  have ho := tunOwn_fn p.data h.data hl
  have hpart : Fn Tryz.prog 120 [.agg (pktD p)] fun d => d = boolD (p.mf || decide (0 < p.off)) := by
    refine fnOf [] Tryz.func120 rfl (by kernel_rfl) (Nat.le_of_ble_eq_true rfl) ?_
    cases hm : p.mf with
    | true =>
      conv => whnf
      rw [hm]
      conv => whnf
      rfl
    | false =>
      conv => whnf
      rw [hm]
      conv => whnf
      refine congrArg boolD ?_
      rw [Bool.false_or]
      exact decide_eq_decide.2 (by omega)
  unfold openP
  unfold ownD at ho
  generalize ownP p.data = r at *
  conv => whnf
  refine Fork.intro (fun q1 => ?_) (fun q1 => ?_)
  · rw [decide_eq_false (show ¬ p.proto = 4 by have := ndT q1; omega)]
    conv => whnf
    exact oct0_le
  rw [decide_eq_true (show p.proto = 4 by have := ndF q1; omega)]
  dsimp only
  conv => whnf
  (refine CallVC.pure (hpart) rfl ?_; rintro _ rfl; conv => whnf)
  generalize (p.mf || decide (0 < p.off)) = part at *
  cases part with
  | true =>
    conv => whnf
    exact oct0_le
  | false =>
    conv => whnf
    (refine CallVC.pure (ho) rfl ?_; rintro _ rfl; conv => whnf)
    exact DLe.refl _
set_option maxHeartbeats 1000000 in
theorem rOwn_fn (b : List Nat) (hb : Byt b) (hl : b.length ≤ 100000) : Fn Tryz.prog 94 [octR b] fun d => d = octsR (ownP b) := by
  refine FnX (fnOf [] Tryz.func94 rfl (by kernel_rfl) (Nat.le_of_ble_eq_true rfl) ?_)
  have hp := rParseP_fn b hb hl
  by_cases hbad : badP b = 0
  · have hg := badP_good hbad
    have hf := hg.fits
    have := hg.l20
    have t2 := i64two hb 2 (by omega)
    rw [parseP_good hg] at hp
    rw [ownP_good hg]
    have ha : Fn Tryz.prog 61 [octR (b.take (get16 b 2)), .v (.slice none 0 0)] fun d => d = octR (b.take (get16 b 2)) := by
      have := rAdd_fn (b.take (get16 b 2)) [] (by rw [List.length_take]; omega) (by simp)
      rw [List.append_nil] at this
      exact FnLe this fun C vs hr => reps_one (l := [octR (b.take (get16 b 2))]) (r := []) (DLe.nil _ _) hr
    generalize pktP b = p at *
    conv => whnf
    (refine CallVC.pure (hp) rfl ?_; rintro _ rfl; conv => whnf)
    (refine ⟨rfl, ⟨by omega, by omega⟩, fun x hx => ?_⟩; obtain rfl : b.getD 2 0 = x := getD_of hx; conv => whnf)
    (refine ⟨rfl, ⟨by omega, by omega⟩, fun x hx => ?_⟩; obtain rfl : b.getD 3 0 = x := getD_of hx; conv => whnf)
    rw [t2]
    refine ⟨rfl, ⟨by omega, by omega, by omega⟩, ?_⟩
    conv => whnf
    (refine CallVC.pure (ha) rfl ?_; rintro _ rfl; conv => whnf)
    exact DLe.refl _
  · rw [ownP_bad hbad]
    rw [parseP_bad rfl hbad] at hp
    generalize badP b = e at *
    conv => whnf
    (refine CallVC.pure (hp) rfl ?_; rintro _ rfl; conv => whnf)
    refine Fork.intro (fun _ => ?_) (fun q => absurd (ndF q) hbad)
    conv => whnf
    exact oct0_le
set_option maxHeartbeats 1000000 in
theorem rOpen_fn (p : Pkt) (h : p.ok) (hl : p.data.length ≤ 100000) : Fn Tryz.prog 64 [.agg (pktD p)] fun d => d = octsR (openP p) := by
  refine FnX (fnOf [] Tryz.func64 rfl (by kernel_rfl) (Nat.le_of_ble_eq_true rfl) ?_)
  have ho := rOwn_fn p.data h.data hl
  unfold openP
  generalize ownP p.data = r at *
  conv => whnf
  refine Fork.intro (fun q1 => ?_) (fun q1 => ?_)
  · rw [decide_eq_false (show ¬ p.proto = 4 by have := ndT q1; omega)]
    conv => whnf
    exact oct0_le
  rw [decide_eq_true (show p.proto = 4 by have := ndF q1; omega)]
  dsimp only
  cases hm : p.mf with
  | true =>
    conv => whnf
    rw [hm]
    conv => whnf
    exact oct0_le
  | false =>
    conv => whnf
    rw [hm]
    conv => whnf
    refine Fork.intro (fun q2 => ?_) (fun q2 => ?_)
    · rw [decide_eq_true (show 0 < p.off by have := of_decide_eq_true q2; omega)]
      conv => whnf
      exact oct0_le
    rw [decide_eq_false (show ¬ 0 < p.off by have := of_decide_eq_false q2; omega)]
    conv => whnf
    (refine CallVC.pure (ho) rfl ?_; rintro _ rfl; conv => whnf)
    exact DLe.refl _
end Go.Proofs.YtgodclgcfpmloaaGreatDoor.V
