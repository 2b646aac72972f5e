/-
  The document's sums, heads, datagrams, segments, of bytes: by value. Conditions: bytes, not too many; numbers of their types.
-/
import Derived.Test.YtgodclgcfpmloaaK5
import Derived.Test.YtgodclgcfpmloaaFiaK
namespace Go.Proofs.Ytgodclgcfpmloaa.V
open Go.RowKit

theorem dleLit {α : Type} {e : Nat} {enc : α → List D} {L : List α} (hf : ∀ y d, d ∈ enc y → flatD 4 d = true) : DLe (.lit e (L.map enc)) (.rows α e enc L) := fun C v h => by
  cases h with
  | lit b o g hc hp hl hcell hrep =>
    rw [List.length_map] at hc
    have hget : ∀ (i : Nat) x, L[i]? = some x → (L.map enc)[i]? = some (enc x) := fun i x hx => by rw [List.getElem?_map, hx]; rfl
    rw [List.length_map]
    refine .rows b o g (Nat.le_of_eq hc) (fun hn => hp (by simpa using hn)) (fun i x hx => hl i _ (hget i x hx)) (fun i x j d hx hd => hcell i _ j d (hget i x hx) hd) (fun i x j d hx hd => flat_rep 4 d _ (hf x d (List.mem_of_getElem? hd)) (hrep i _ j d (hget i x hx) hd))
theorem octE_flat : ∀ (y : Nat) (d : D), d ∈ octE y → flatD 4 d = true := fun y d hd => by simp [octE] at hd; subst hd; rfl
theorem reps_one {C : Ctx} {a b : D} (h : DLe b a) : ∀ {l r : List D} {vs : List Value}, reps C (l ++ b :: r) vs → reps C (l ++ a :: r) vs := fun {l r vs} hr => by
  refine ⟨by rw [hr.1, List.length_append, List.length_append]; rfl, fun j d u hd hu => ?_⟩
  by_cases hj : j = l.length
  · subst hj
    rw [List.getElem?_append_right (Nat.le_refl _), Nat.sub_self] at hd
    injection hd with hd
    subst hd
    exact h _ _ (hr.2 l.length b u (by rw [List.getElem?_append_right (Nat.le_refl _), Nat.sub_self]; rfl) hu)
  · refine hr.2 j d u ?_ hu
    by_cases hl : j < l.length
    · rw [List.getElem?_append_left hl] at hd ⊢; exact hd
    · rw [List.getElem?_append_right (by omega)] at hd ⊢
      obtain ⟨m, hm⟩ : ∃ m, j - l.length = m + 1 := ⟨j - l.length - 1, by omega⟩
      rw [hm] at hd ⊢
      exact hd
attribute [local irreducible] Fn FnN FnR OpVC DLe

theorem ndT {p : Prop} [Decidable p] (h : (!decide p) = true) : ¬ p := fun hp => by rw [decide_eq_true hp] at h; cases h
theorem ndF {p : Prop} [Decidable p] (h : (!decide p) = false) : p := by
  by_cases hp : p
  · exact hp
  · rw [decide_eq_false hp] at h; cases h
theorem rOnes_fn (l : List Nat) (hl : Byt l) (hlen : l.length ≤ 1000000) : Fn Try.prog 54 [octR l] fun d => d = intD (onesL l) := by
  refine fnOf [] Try.func54 rfl (by kernel_rfl) (Nat.le_of_ble_eq_true rfl) ?_
  conv => whnf
  refine ⟨Nat, fun m => ⟨[(4, intD m), (3, intD (onesL (l.take m))), (0, octR l)], [], 0, ([], 0)⟩, fun m => m % 2 = 0 ∧ m ≤ l.length + 1, fun m => l.length + 1 - m, ⟨0, [], [], ?_, rfl, Nat.zero_le _⟩, ?_⟩
  · repeat' (first | exact trivial | exact .inl (DLe.refl _) | exact .inl (DLe.nil _ _) | (refine .inr ⟨rfl, _, ?_, rfl⟩; rfl) | exact rfl | exact .inl rfl | exact .inr ⟨rfl, rfl, rfl, rfl⟩ | exact Nat.zero_le _ | constructor)
  intro m hk
  obtain ⟨hk0, hk⟩ : m % 2 = 0 ∧ m ≤ l.length + 1 := hk
  have e1 : IntKind.i64.wrap ((m : Int) + 1) = ((m + 1 : Nat) : Int) := wrapN (by omega)
  have e2 : IntKind.i64.wrap ((m : Int) + 2) = ((m + 2 : Nat) : Int) := by rw [IntWalk.i64_in _ (by omega)]; omega
  have hn := onesL_lt (l.take m)
  conv => whnf
  refine Fork.intro (fun q => ?_) (fun q => ?_)
  · have q : m < l.length := by have := of_decide_eq_true q; omega
    obtain ⟨x, hx⟩ : ∃ x, l[m]? = some x := ⟨_, List.getElem?_eq_getElem q⟩
    have hx256 := hl.get hx
    have ex : IntKind.i64.wrap (IntKind.i64.wrap (x : Int) * 256) = ((x * 256 : Nat) : Int) := by
      rw [IntWalk.i64_in (x : Int) (by omega), IntWalk.i64_in _ (by omega)]; omega
    have s1 := smB_take hx
    rw [if_pos (by omega)] at s1
    have fin : ∀ y : Nat, y < 65536 → onesL (l.take (m + 2)) = foldN (smB true (l.take m) + y) → ∀ z : Nat, z = onesL (l.take m) + y → onesL (l.take (m + 2)) = (if 65535 < z then z - 65535 else z) := by
      intro y hy he z hz
      rw [he, ← foldN_add, show foldN (smB true (l.take m)) = onesL (l.take m) from rfl, ← hz]
      split
      · obtain ⟨a, ha⟩ : ∃ a, z = a + 1 := ⟨z - 1, by omega⟩
        subst ha
        show a % 65535 + 1 = _
        omega
      · exact foldN_small (by omega)
    have go : ∀ y : Nat, y < 65536 → onesL (l.take (m + 2)) = foldN (smB true (l.take m) + y) → IntKind.i64.wrap ((onesL (l.take m) : Int) + (y : Int)) = ((onesL (l.take m) + y : Nat) : Int) ∧ (65535 < onesL (l.take m) + y → IntKind.i64.wrap (((onesL (l.take m) + y : Nat) : Int) - 65535) = (onesL (l.take (m + 2)) : Int)) ∧ (¬ 65535 < onesL (l.take m) + y → onesL (l.take m) + y = onesL (l.take (m + 2))) := by
      intro y hy he
      have hf := fin y hy he _ rfl
      refine ⟨wrapK (by omega) (by omega), fun h => ?_, fun h => ?_⟩
      · rw [if_pos h] at hf
        rw [IntWalk.i64_in _ (by omega)]; omega
      · rw [if_neg h] at hf; exact hf.symm
    conv => whnf
    refine ⟨rfl, ⟨by omega, by omega⟩, fun x' hx' => ?_⟩
    obtain rfl : x = x' := Option.some.inj (hx.symm.trans hx')
    conv => whnf
    rw [ex, e1]
    refine Fork.intro (fun q2 => ?_) (fun q2 => ?_)
    · have q2 : m + 1 < l.length := by have := of_decide_eq_true q2; omega
      obtain ⟨y, hy⟩ : ∃ y, l[m + 1]? = some y := ⟨_, List.getElem?_eq_getElem q2⟩
      have hy256 := hl.get hy
      have s2 := smB_take hy
      rw [if_neg (by omega), s1] at s2
      have ey : IntKind.i64.wrap (((x * 256 : Nat) : Int) + IntKind.i64.wrap (y : Int)) = ((x * 256 + y : Nat) : Int) := by
        rw [IntWalk.i64_in (y : Int) (by omega), IntWalk.i64_in _ (by omega)]; omega
      obtain ⟨g1, g2, g3⟩ := go (x * 256 + y) (by omega) (by rw [show m + 2 = m + 1 + 1 from rfl]; unfold onesL; rw [s2]; congr 1; omega)
      conv => whnf
      rw [e1]
      refine ⟨rfl, ⟨by omega, by omega⟩, fun y' hy' => ?_⟩
      obtain rfl : y = y' := Option.some.inj (hy.symm.trans hy')
      conv => whnf
      rw [ey, g1]
      refine Fork.intro (fun q3 => ?_) (fun q3 => ?_)
      · conv => whnf
        rw [g2 (by have := of_decide_eq_true q3; omega), e2]
        refine ⟨m + 2, [], [], ?_, ⟨by show (m + 2) % 2 = 0; omega, by show m + 2 ≤ l.length + 1; omega⟩, by show l.length + 1 - (m + 2) < l.length + 1 - m; omega⟩
        repeat' (first | exact trivial | exact .inl (DLe.refl _) | exact .inl (DLe.nil _ _) | (refine .inr ⟨rfl, _, ?_, rfl⟩; rfl) | exact rfl | exact .inl rfl | exact .inr ⟨rfl, rfl, rfl, rfl⟩ | exact Nat.zero_le _ | constructor)
      · conv => whnf
        rw [g3 (by have := of_decide_eq_false q3; omega), e2]
        refine ⟨m + 2, [], [], ?_, ⟨by show (m + 2) % 2 = 0; omega, by show m + 2 ≤ l.length + 1; omega⟩, by show l.length + 1 - (m + 2) < l.length + 1 - m; omega⟩
        repeat' (first | exact trivial | exact .inl (DLe.refl _) | exact .inl (DLe.nil _ _) | (refine .inr ⟨rfl, _, ?_, rfl⟩; rfl) | exact rfl | exact .inl rfl | exact .inr ⟨rfl, rfl, rfl, rfl⟩ | exact Nat.zero_le _ | constructor)
    · have q2 : l.length = m + 1 := by have := of_decide_eq_false q2; omega
      obtain ⟨g1, g2, g3⟩ := go (x * 256) (by omega) (by rw [List.take_of_length_le (show l.length ≤ m + 2 by omega), ← s1, List.take_of_length_le (by omega)]; rfl)
      conv => whnf
      rw [g1]
      refine Fork.intro (fun q3 => ?_) (fun q3 => ?_)
      · conv => whnf
        rw [g2 (by have := of_decide_eq_true q3; omega), e2]
        refine ⟨m + 2, [], [], ?_, ⟨by show (m + 2) % 2 = 0; omega, by show m + 2 ≤ l.length + 1; omega⟩, by show l.length + 1 - (m + 2) < l.length + 1 - m; omega⟩
        repeat' (first | exact trivial | exact .inl (DLe.refl _) | exact .inl (DLe.nil _ _) | (refine .inr ⟨rfl, _, ?_, rfl⟩; rfl) | exact rfl | exact .inl rfl | exact .inr ⟨rfl, rfl, rfl, rfl⟩ | exact Nat.zero_le _ | constructor)
      · conv => whnf
        rw [g3 (by have := of_decide_eq_false q3; omega), e2]
        refine ⟨m + 2, [], [], ?_, ⟨by show (m + 2) % 2 = 0; omega, by show m + 2 ≤ l.length + 1; omega⟩, by show l.length + 1 - (m + 2) < l.length + 1 - m; omega⟩
        repeat' (first | exact trivial | exact .inl (DLe.refl _) | exact .inl (DLe.nil _ _) | (refine .inr ⟨rfl, _, ?_, rfl⟩; rfl) | exact rfl | exact .inl rfl | exact .inr ⟨rfl, rfl, rfl, rfl⟩ | exact Nat.zero_le _ | constructor)
  · have q : ¬ m < l.length := by have := of_decide_eq_false q; omega
    rw [List.take_of_length_le (by omega)]
    conv => whnf
theorem rHead_fn (src dst proto n : Nat) (h1 : src < 4294967296) (h2 : dst < 4294967296) (hn : n ≤ 1000000) : Fn Try.prog 56 [u32D src, u32D dst, u8D proto, intD n] fun d => d = octR (headL src dst proto n) := by
  refine fnOf [] Try.func56 rfl (by kernel_rfl) (Nat.le_of_ble_eq_true rfl) ?_
  have p1 := rPut_fn src 4 h1 (by decide)
  have p2 := rPut_fn dst 4 h2 (by decide)
  rw [bigL_four] at p1 p2
  have a1 := rAdd_fn (b4 src) (b4 dst) (by simp [b4]) (by simp [b4])
  have a2 := rAdd_fn (b4 src ++ b4 dst) ([0, proto] ++ b2 n) (by simp [b4]) (by simp [b2])
  have a3 : Fn Try.prog 55 [octR (b4 src ++ b4 dst), .lit 1 [[u8D 0], [u8D proto], [u8D ((n / 256 % 256 : Nat) : Int)], [u8D ((n % 256 : Nat) : Int)]]] fun d => d = octR (headL src dst proto n) := by
    have := FnLe a2 fun C vs hr => reps_one (l := [octR (b4 src ++ b4 dst)]) (r := []) (dleLit octE_flat) hr
    rw [show headL src dst proto n = b4 src ++ b4 dst ++ ([0, proto] ++ b2 n) by rw [headL, List.append_assoc]]
    exact this
  have c1 : IntKind.u8.wrap (((n : Int).tdiv 256).tmod 256) = ((n / 256 % 256 : Nat) : Int) := by
    rw [Int.tdiv_eq_ediv_of_nonneg (by omega), Int.tmod_eq_emod_of_nonneg (by omega), u8_small (by omega)]; omega
  have c2 : IntKind.u8.wrap ((n : Int).tmod 256) = ((n % 256 : Nat) : Int) := by
    rw [Int.tmod_eq_emod_of_nonneg (by omega), u8_small (by omega)]; omega
  have c3 : IntKind.i64.wrap ((n : Int).tdiv 256) = (n : Int).tdiv 256 := by rw [Int.tdiv_eq_ediv_of_nonneg (by omega), IntWalk.i64_in _ (by omega)]
  conv => whnf
  (refine CallVC.pure (p1) rfl ?_; rintro _ rfl; conv => whnf)
  (refine CallVC.pure (p2) rfl ?_; rintro _ rfl; conv => whnf)
  (refine CallVC.pure (a1) rfl ?_; rintro _ rfl; conv => whnf)
  refine ⟨by decide, ?_⟩
  conv => whnf
  refine ⟨by decide, ?_⟩
  conv => whnf
  refine ⟨by decide, ?_⟩
  conv => whnf
  simp only [c3, c1, c2]
  (refine ⟨Nat.le_of_ble_eq_true rfl, ?_⟩; conv => whnf)
  (refine CallVC.pure (a3) rfl ?_; rintro _ rfl; conv => whnf)

/-! ### Datagrams, segments -/
theorem getD_lt {b : List Nat} (hb : Byt b) (i : Nat) : b.getD i 0 < 256 := by
  cases hq : b[i]? with
  | none => rw [List.getD_eq_getElem?_getD, hq]; decide
  | some x => rw [getD_of hq]; exact hb.get hq
theorem get16_at {b : List Nat} (hb : Byt b) {i : Nat} (h : i + 1 < b.length) : get16 b i = b.getD i 0 * 256 + b.getD (i + 1) 0 := by
  have h1 : b[i]? = some (b.getD i 0) := by rw [List.getD_eq_getElem?_getD, List.getElem?_eq_getElem (by omega)]; rfl
  have h2 : b[i + 1]? = some (b.getD (i + 1) 0) := by rw [List.getD_eq_getElem?_getD, List.getElem?_eq_getElem h]; rfl
  exact get16_two h1 h2 (getD_lt hb _) (getD_lt hb _)
theorem u16two {b : List Nat} (hb : Byt b) (i : Nat) (h : i + 1 < b.length) : IntKind.u16.wrap (IntKind.u16.wrap (IntKind.u16.wrap ((b.getD i 0 : Nat) : Int) * 256) + IntKind.u16.wrap ((b.getD (i + 1) 0 : Nat) : Int)) = ((get16 b i : Nat) : Int) := by
  have h1 := getD_lt hb i
  have h2 := getD_lt hb (i + 1)
  rw [get16_at hb h]
  simp only [u16_wrap]
  omega
theorem i64two {b : List Nat} (hb : Byt b) (i : Nat) (h : i + 1 < b.length) : IntKind.i64.wrap (IntKind.i64.wrap (IntKind.i64.wrap ((b.getD i 0 : Nat) : Int) * 256) + IntKind.i64.wrap ((b.getD (i + 1) 0 : Nat) : Int)) = ((get16 b i : Nat) : Int) := by
  have h1 := getD_lt hb i
  have h2 := getD_lt hb (i + 1)
  rw [get16_at hb h, IntWalk.i64_in ((b.getD i 0 : Nat) : Int) (by omega), IntWalk.i64_in ((b.getD (i + 1) 0 : Nat) : Int) (by omega), IntWalk.i64_in (((b.getD i 0 : Nat) : Int) * 256) (by omega), IntWalk.i64_in _ (by omega)]
  omega
theorem cutL_from (l : List Nat) (n : Nat) (k : Nat) (h : n ≤ l.length) : cutL l k (n - k) = cutL (l.take n) k (n - k) := by
  unfold cutL
  have hl : (l.take n).length = n := by rw [List.length_take]; omega
  rw [hl]
  cases hq : decide (k + (n - k) ≤ n) with
  | true =>
    have hq := of_decide_eq_true hq
    rw [decide_eq_true (by omega)]
    dsimp only
    rw [List.drop_take, List.take_take]
    congr 1
    omega
  | false =>
    have hq := of_decide_eq_false hq
    cases hz : decide (k + (n - k) ≤ l.length) with
    | false => rfl
    | true =>
      dsimp only
      rw [show n - k = 0 by omega, List.take_zero]
theorem get16_take {b : List Nat} (hb : Byt b) {n i : Nat} (h : i + 1 < n) (hn : n ≤ b.length) : get16 (b.take n) i = get16 b i := by
  have hl : (b.take n).length = n := by rw [List.length_take]; omega
  have hg : ∀ k, k < n → (b.take n).getD k 0 = b.getD k 0 := fun k hk => by rw [List.getD_eq_getElem?_getD, List.getD_eq_getElem?_getD, List.getElem?_take, if_pos hk]
  rw [get16_at (fun c hc => hb c (List.mem_of_mem_take hc)) (by omega), get16_at hb (by omega), hg i (by omega), hg (i + 1) h]
set_option maxHeartbeats 2000000 in
theorem rParseU_fn (src dst : Nat) (b : List Nat) (h1 : src < 4294967296) (h2 : dst < 4294967296) (hb : Byt b) (hl : b.length ≤ 100000) : Fn Try.prog 41 [u32D src, u32D dst, octR b] fun d => d = dgmR (parseU src dst b) := by
  refine FnX (fnOf [(9, [0, 1, 2, 3, 4, 5, 7, 8, 9, 6, 10, 11, 12, 13])] Try.func41 rfl (by kernel_rfl) (Nat.le_of_ble_eq_true rfl) ?_)
  have hlt := get16_lt b 4
  unfold parseU udpBad
  conv => whnf
  refine Fork.intro (fun q1 => ?_) (fun q1 => ?_)
  · rw [decide_eq_true (show b.length < 8 by have := of_decide_eq_true q1; omega)]
    conv => whnf
    exact dgm0_le
  have q1 : ¬ b.length < 8 := by have := of_decide_eq_false q1; omega
  rw [decide_eq_false q1]
  dsimp only
  have t4 := i64two hb 4 (by omega)
  have t0 := u16two hb 0 (by omega)
  have t2 := u16two hb 2 (by omega)
  have t6 : get16 b 6 = b.getD 6 0 * 256 + b.getD 7 0 := get16_at hb (i := 6) (by omega)
  have b6 := getD_lt hb 6
  have b7 := getD_lt hb 7
  conv => whnf
  (refine ⟨rfl, ⟨by omega, by omega⟩, fun x hx => ?_⟩; obtain rfl : b.getD 4 0 = x := getD_of hx; conv => whnf)
  (refine ⟨rfl, ⟨by omega, by omega⟩, fun x hx => ?_⟩; obtain rfl : b.getD 5 0 = x := getD_of hx; conv => whnf)
  simp only [t4]
  generalize hn : get16 b 4 = n at *
  refine Fork.intro (fun q2 => ?_) (fun q2 => ?_)
  · rw [decide_eq_true (show n < 8 by have := of_decide_eq_true q2; omega)]
    conv => whnf
    exact dgm0_le
  have q2 : ¬ n < 8 := by have := of_decide_eq_false q2; omega
  rw [decide_eq_false q2]
  dsimp only
  conv => whnf
  refine Fork.intro (fun q3 => ?_) (fun q3 => ?_)
  · rw [decide_eq_true (show b.length < n by have := of_decide_eq_true q3; omega)]
    conv => whnf
    exact dgm0_le
  have q3 : ¬ b.length < n := by have := of_decide_eq_false q3; omega
  rw [decide_eq_false q3]
  dsimp only
  have hall : Byt (b.take n) := fun c hc => hb c (List.mem_of_mem_take hc)
  have hln : (b.take n).length = n := by rw [List.length_take]; omega
  have hh := rHead_fn src dst 17 n h1 h2 (by omega)
  have ha := rAdd_fn (headL src dst 17 n) (b.take n) (by rw [headL_len]; decide) (by omega)
  have ho := rOnes_fn (headL src dst 17 n ++ b.take n) (bytA (headL_byt (by decide)) hall) (by rw [List.length_append, headL_len]; omega)
  have hc := rCut_fn b 8 (n - 8) (by omega) (by omega)
  have e8 : IntKind.i64.wrap ((n : Int) - 8) = ((n - 8 : Nat) : Int) := by rw [IntWalk.i64_in _ (by omega)]; omega
  rw [cutL_from b n 8 (by omega)] at hc
  rw [get16_take hb (by omega) (by omega), get16_take hb (by omega) (by omega)]
  generalize headL src dst 17 n ++ b.take n = HB at *
  generalize headL src dst 17 n = H at *
  generalize cutL (b.take n) 8 (n - 8) = xd at *
  have fin : ∀ zz : Bool, DLe (.tup [.agg [u16D (get16 b 0), u16D (get16 b 2), boolD zz, octR xd], intD 0]) (dgmR (⟨get16 b 0, get16 b 2, zz, xd⟩, 0)) := fun zz => DLe.refl _
  conv => whnf
  (refine ⟨rfl, ⟨by omega, by omega⟩, fun x hx => ?_⟩; obtain rfl : b.getD 6 0 = x := getD_of hx; conv => whnf)
  refine Fork.intro (fun q6 => ?_) (fun q6 => ?_)
  · have q6 : b.getD 6 0 = 0 := by have := of_decide_eq_true q6; omega
    conv => whnf
    (refine ⟨rfl, ⟨by omega, by omega⟩, fun x hx => ?_⟩; obtain rfl : b.getD 7 0 = x := getD_of hx; conv => whnf)
    cases hz : decide (((b.getD 7 0 : Nat) : Int) = 0) with
    | true =>
      have hz6 : decide (get16 b 6 = 0) = true := decide_eq_true (by have := of_decide_eq_true hz; omega)
      simp only [hz6, Bool.not_true, Bool.false_and]
      conv => whnf
      rw [e8]
      (refine CallVC.pure (hc) rfl ?_; rintro _ rfl; conv => whnf)
      (refine ⟨rfl, ⟨by omega, by omega⟩, fun x hx => ?_⟩; obtain rfl : b.getD 0 0 = x := getD_of hx; conv => whnf)
      (refine ⟨rfl, ⟨by omega, by omega⟩, fun x hx => ?_⟩; obtain rfl : b.getD 1 0 = x := getD_of hx; conv => whnf)
      (refine ⟨rfl, ⟨by omega, by omega⟩, fun x hx => ?_⟩; obtain rfl : b.getD 2 0 = x := getD_of hx; conv => whnf)
      (refine ⟨rfl, ⟨by omega, by omega⟩, fun x hx => ?_⟩; obtain rfl : b.getD 3 0 = x := getD_of hx; conv => whnf)
      simp only [t0, t2]
      conv => whnf
      exact fin _
    | false =>
      have hz6 : decide (get16 b 6 = 0) = false := decide_eq_false (by have := of_decide_eq_false hz; omega)
      simp only [hz6, Bool.not_false, Bool.true_and]
      conv => whnf
      refine ⟨rfl, ⟨by omega, by omega, by omega⟩, ?_⟩
      conv => whnf
      (refine CallVC.pure (hh) rfl ?_; rintro _ rfl; conv => whnf)
      (refine CallVC.pure (ha) rfl ?_; rintro _ rfl; conv => whnf)
      (refine CallVC.pure (ho) rfl ?_; rintro _ rfl; conv => whnf)
      refine Fork.intro (fun q5 => ?_) (fun q5 => ?_)
      · rw [decide_eq_false (show ¬ onesL HB = 65535 by have := ndT q5; omega)]
        conv => whnf
        exact dgm0_le
      have q5 : onesL HB = 65535 := by have := ndF q5; omega
      rw [decide_eq_true q5]
      conv => whnf
      rw [e8]
      (refine CallVC.pure (hc) rfl ?_; rintro _ rfl; conv => whnf)
      (refine ⟨rfl, ⟨by omega, by omega⟩, fun x hx => ?_⟩; obtain rfl : b.getD 0 0 = x := getD_of hx; conv => whnf)
      (refine ⟨rfl, ⟨by omega, by omega⟩, fun x hx => ?_⟩; obtain rfl : b.getD 1 0 = x := getD_of hx; conv => whnf)
      (refine ⟨rfl, ⟨by omega, by omega⟩, fun x hx => ?_⟩; obtain rfl : b.getD 2 0 = x := getD_of hx; conv => whnf)
      (refine ⟨rfl, ⟨by omega, by omega⟩, fun x hx => ?_⟩; obtain rfl : b.getD 3 0 = x := getD_of hx; conv => whnf)
      simp only [t0, t2]
      conv => whnf
      exact fin _
  · have q6 : ¬ b.getD 6 0 = 0 := by have := of_decide_eq_false q6; omega
    have hz6 : decide (get16 b 6 = 0) = false := decide_eq_false (by omega)
    simp only [hz6, Bool.not_false, Bool.true_and]
    conv => whnf
    refine ⟨rfl, ⟨by omega, by omega, by omega⟩, ?_⟩
    conv => whnf
    (refine CallVC.pure (hh) rfl ?_; rintro _ rfl; conv => whnf)
    (refine CallVC.pure (ha) rfl ?_; rintro _ rfl; conv => whnf)
    (refine CallVC.pure (ho) rfl ?_; rintro _ rfl; conv => whnf)
    refine Fork.intro (fun q5 => ?_) (fun q5 => ?_)
    · rw [decide_eq_false (show ¬ onesL HB = 65535 by have := ndT q5; omega)]
      conv => whnf
      exact dgm0_le
    have q5 : onesL HB = 65535 := by have := ndF q5; omega
    rw [decide_eq_true q5]
    conv => whnf
    rw [e8]
    (refine CallVC.pure (hc) rfl ?_; rintro _ rfl; conv => whnf)
    (refine ⟨rfl, ⟨by omega, by omega⟩, fun x hx => ?_⟩; obtain rfl : b.getD 0 0 = x := getD_of hx; conv => whnf)
    (refine ⟨rfl, ⟨by omega, by omega⟩, fun x hx => ?_⟩; obtain rfl : b.getD 1 0 = x := getD_of hx; conv => whnf)
    (refine ⟨rfl, ⟨by omega, by omega⟩, fun x hx => ?_⟩; obtain rfl : b.getD 2 0 = x := getD_of hx; conv => whnf)
    (refine ⟨rfl, ⟨by omega, by omega⟩, fun x hx => ?_⟩; obtain rfl : b.getD 3 0 = x := getD_of hx; conv => whnf)
    simp only [t0, t2]
    conv => whnf
    exact fin _
set_option maxHeartbeats 4000000 in
theorem rParseT_fn (src dst : Nat) (b : List Nat) (h1 : src < 4294967296) (h2 : dst < 4294967296) (hb : Byt b) (hl : b.length ≤ 100000) : Fn Try.prog 39 [u32D src, u32D dst, octR b] fun d => d = segR (parseT src dst b) := by
  refine FnX (fnOf [] Try.func39 rfl (by kernel_rfl) (Nat.le_of_ble_eq_true rfl) ?_)
  unfold parseT
  conv => whnf
  refine Fork.intro (fun q1 => ?_) (fun q1 => ?_)
  · rw [decide_eq_true (show b.length < 20 by have := of_decide_eq_true q1; omega)]
    conv => whnf
    exact seg0_le
  have q1 : ¬ b.length < 20 := by have := of_decide_eq_false q1; omega
  rw [decide_eq_false q1]
  dsimp only
  have b12 := getD_lt hb 12
  have eo : IntKind.i64.wrap (IntKind.i64.wrap ((IntKind.i64.wrap ((b.getD 12 0 : Nat) : Int)).tdiv 16) * 4) = ((offT b : Nat) : Int) := by
    unfold offT
    rw [IntWalk.i64_in ((b.getD 12 0 : Nat) : Int) (by omega), Int.tdiv_eq_ediv_of_nonneg (by omega), IntWalk.i64_in (((b.getD 12 0 : Nat) : Int) / 16) (by omega), IntWalk.i64_in _ (by omega)]
    omega
  have hoff : offT b ≤ 60 := by unfold offT; omega
  generalize hn : offT b = n at *
  have t0 := u16two hb 0 (by omega)
  have t2 := u16two hb 2 (by omega)
  have t14 := u16two hb 14 (by omega)
  have t18 := u16two hb 18 (by omega)
  conv => whnf
  (refine ⟨rfl, ⟨by omega, by omega⟩, fun x hx => ?_⟩; obtain rfl : b.getD 12 0 = x := getD_of hx; conv => whnf)
  refine ⟨by decide, ?_⟩
  conv => whnf
  simp only [eo]
  refine Fork.intro (fun q2 => ?_) (fun q2 => ?_)
  · rw [decide_eq_true (show n < 20 by have := of_decide_eq_true q2; omega)]
    conv => whnf
    exact seg0_le
  have q2 : ¬ n < 20 := by have := of_decide_eq_false q2; omega
  rw [decide_eq_false q2]
  conv => whnf
  refine Fork.intro (fun q3 => ?_) (fun q3 => ?_)
  · rw [decide_eq_true (show 65535 < b.length by have := of_decide_eq_true q3; omega)]
    conv => whnf
    exact seg0_le
  have q3 : ¬ 65535 < b.length := by have := of_decide_eq_false q3; omega
  rw [decide_eq_false q3]
  conv => whnf
  refine Fork.intro (fun q4 => ?_) (fun q4 => ?_)
  · rw [decide_eq_true (show b.length < n by have := of_decide_eq_true q4; omega)]
    conv => whnf
    exact seg0_le
  have q4 : ¬ b.length < n := by have := of_decide_eq_false q4; omega
  rw [decide_eq_false q4]
  dsimp only
  have hh := rHead_fn src dst 6 b.length h1 h2 (by omega)
  have ha := rAdd_fn (headL src dst 6 b.length) b (by rw [headL_len]; decide) (by omega)
  have ho := rOnes_fn (headL src dst 6 b.length ++ b) (bytA (headL_byt (by decide)) hb) (by rw [List.length_append, headL_len]; omega)
  have hg4 := rGet4_fn b 4 hb (by omega) (by omega)
  have hg8 := rGet4_fn b 8 hb (by omega) (by omega)
  have hc20 := rCut_fn b 20 (n - 20) (by omega) (by omega)
  have hcn := rCut_fn b n (b.length - n) (by omega) (by omega)
  have e20 : IntKind.i64.wrap ((n : Int) - 20) = ((n - 20 : Nat) : Int) := by rw [IntWalk.i64_in _ (by omega)]; omega
  have en : IntKind.i64.wrap ((b.length : Int) - (n : Int)) = ((b.length - n : Nat) : Int) := by rw [IntWalk.i64_in _ (by omega)]; omega
  have m12 : ((b.getD 12 0 : Nat) : Int).tmod 16 = ((b.getD 12 0 % 16 : Nat) : Int) := by rw [Int.tmod_eq_emod_of_nonneg (by omega)]; omega
  generalize headL src dst 6 b.length ++ b = HB at *
  generalize headL src dst 6 b.length = H at *
  generalize cutL b 20 (n - 20) = xo at *
  generalize cutL b n (b.length - n) = xd at *
  conv => whnf
  (refine CallVC.pure (hh) rfl ?_; rintro _ rfl; conv => whnf)
  (refine CallVC.pure (ha) rfl ?_; rintro _ rfl; conv => whnf)
  (refine CallVC.pure (ho) rfl ?_; rintro _ rfl; conv => whnf)
  refine Fork.intro (fun q5 => ?_) (fun q5 => ?_)
  · rw [decide_eq_false (show ¬ onesL HB = 65535 by have := ndT q5; omega)]
    conv => whnf
    exact seg0_le
  have q5 : onesL HB = 65535 := by have := ndF q5; omega
  rw [decide_eq_true q5]
  conv => whnf
  (refine ⟨rfl, ⟨by omega, by omega⟩, fun x hx => ?_⟩; obtain rfl : b.getD 0 0 = x := getD_of hx; conv => whnf)
  (refine ⟨rfl, ⟨by omega, by omega⟩, fun x hx => ?_⟩; obtain rfl : b.getD 1 0 = x := getD_of hx; conv => whnf)
  (refine ⟨rfl, ⟨by omega, by omega⟩, fun x hx => ?_⟩; obtain rfl : b.getD 2 0 = x := getD_of hx; conv => whnf)
  (refine ⟨rfl, ⟨by omega, by omega⟩, fun x hx => ?_⟩; obtain rfl : b.getD 3 0 = x := getD_of hx; conv => whnf)
  (refine ⟨rfl, ⟨by omega, by omega⟩, fun x hx => ?_⟩; obtain rfl : b.getD 12 0 = x := getD_of hx; conv => whnf)
  refine ⟨by decide, ?_⟩
  conv => whnf
  (refine ⟨rfl, ⟨by omega, by omega⟩, fun x hx => ?_⟩; obtain rfl : b.getD 13 0 = x := getD_of hx; conv => whnf)
  (refine ⟨rfl, ⟨by omega, by omega⟩, fun x hx => ?_⟩; obtain rfl : b.getD 14 0 = x := getD_of hx; conv => whnf)
  (refine ⟨rfl, ⟨by omega, by omega⟩, fun x hx => ?_⟩; obtain rfl : b.getD 15 0 = x := getD_of hx; conv => whnf)
  (refine ⟨rfl, ⟨by omega, by omega⟩, fun x hx => ?_⟩; obtain rfl : b.getD 18 0 = x := getD_of hx; conv => whnf)
  (refine ⟨rfl, ⟨by omega, by omega⟩, fun x hx => ?_⟩; obtain rfl : b.getD 19 0 = x := getD_of hx; conv => whnf)
  simp only [t0, t2, t14, t18, m12]
  conv => whnf
  (refine CallVC.pure (hg4) rfl ?_; rintro _ rfl; conv => whnf)
  (refine CallVC.pure (hg8) rfl ?_; rintro _ rfl; conv => whnf)
  rw [e20]
  (refine CallVC.pure (hc20) rfl ?_; rintro _ rfl; conv => whnf)
  rw [en]
  (refine CallVC.pure (hcn) rfl ?_; rintro _ rfl; conv => whnf)
  exact DLe.refl _
end Go.Proofs.Ytgodclgcfpmloaa.V
