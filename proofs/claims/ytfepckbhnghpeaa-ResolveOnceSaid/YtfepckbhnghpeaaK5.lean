/-
  What a filter sees of a packet, what a step asks of it, which filters may be: the program's, by value. Conditions: bytes, not too many; numbers of their types.
  The document's sums, heads, datagrams, segments, of bytes: by value. Conditions: bytes, not too many; numbers of their types.
-/
import Derived.Test.YtfepckbhnghpeaaK4
import Derived.Test.YtfepckbhnghpeaaNets
namespace Go.Proofs.Ytfepckbhnghpeaa.V
open Go.RowKit

theorem fnStill {f : FuncId} {vs : List Value} {v : Value} (hb : hasBody Try.prog f) (h : ∀ w : World, Calls Try.prog f vs.toArray w fun e w' => e = .returned v ∧ w = w') : Fn Try.prog f (vs.map .v) fun d => d = .v v := by
  refine ⟨hb, fun w B args' hB hr => ?_⟩
  have e : args' = vs := by
    apply List.ext_getElem?
    intro i
    have hl : args'.length = vs.length := by rw [hr.1, List.length_map]
    cases hq : vs[i]? with
    | none =>
      have := List.getElem?_eq_none_iff.1 hq
      exact List.getElem?_eq_none (by omega)
    | some x =>
      have hi := (List.getElem?_eq_some_iff.1 hq).1
      obtain ⟨u, hu⟩ : ∃ u, args'[i]? = some u := ⟨args'[i]'(by omega), List.getElem?_eq_getElem _⟩
      have := rep_v (hr.2 i (.v x) u (by rw [List.getElem?_map, hq]; rfl) hu)
      rw [hu, this]
  subst e
  exact (h w).mono fun e w' ⟨h1, h2⟩ => ⟨_, _, rfl, h1, h2 ▸ Under.refl _ _, .v⟩
attribute [local irreducible] Fn FnN FnR OpVC DLe

/-! ### What is seen -/
end Go.Proofs.Ytfepckbhnghpeaa.V
namespace Go.Proofs.Ytfepckbhnghpeaa.V
open Go.RowKit

theorem dleLit {α : Type} {e : Nat} {enc : α → List D} {L : List α} (hf : ∀ y d, d ∈ enc y → flatD 4 d = true) : DLe (.lit e (L.map enc)) (.rows α e enc L) := fun C v h => by
  cases h with
  | lit b o g hc hp hl hcell hrep =>
    rw [List.length_map] at hc
    have hget : ∀ (i : Nat) x, L[i]? = some x → (L.map enc)[i]? = some (enc x) := fun i x hx => by rw [List.getElem?_map, hx]; rfl
    rw [List.length_map]
    refine .rows b o g (Nat.le_of_eq hc) (fun hn => hp (by simpa using hn)) (fun i x hx => hl i _ (hget i x hx)) (fun i x j d hx hd => hcell i _ j d (hget i x hx) hd) (fun i x j d hx hd => flat_rep 4 d _ (hf x d (List.mem_of_getElem? hd)) (hrep i _ j d (hget i x hx) hd))
theorem octE_flat : ∀ (y : Nat) (d : D), d ∈ octE y → flatD 4 d = true := fun y d hd => by simp [octE] at hd; subst hd; rfl
theorem reps_one {C : Ctx} {a b : D} (h : DLe b a) : ∀ {l r : List D} {vs : List Value}, reps C (l ++ b :: r) vs → reps C (l ++ a :: r) vs := fun {l r vs} hr => by
  refine ⟨by rw [hr.1, List.length_append, List.length_append]; rfl, fun j d u hd hu => ?_⟩
  by_cases hj : j = l.length
  · subst hj
    rw [List.getElem?_append_right (Nat.le_refl _), Nat.sub_self] at hd
    injection hd with hd
    subst hd
    exact h _ _ (hr.2 l.length b u (by rw [List.getElem?_append_right (Nat.le_refl _), Nat.sub_self]; rfl) hu)
  · refine hr.2 j d u ?_ hu
    by_cases hl : j < l.length
    · rw [List.getElem?_append_left hl] at hd ⊢; exact hd
    · rw [List.getElem?_append_right (by omega)] at hd ⊢
      obtain ⟨m, hm⟩ : ∃ m, j - l.length = m + 1 := ⟨j - l.length - 1, by omega⟩
      rw [hm] at hd ⊢
      exact hd
attribute [local irreducible] Fn FnN FnR OpVC DLe

theorem ndT {p : Prop} [Decidable p] (h : (!decide p) = true) : ¬ p := fun hp => by rw [decide_eq_true hp] at h; cases h
theorem ndF {p : Prop} [Decidable p] (h : (!decide p) = false) : p := by
  by_cases hp : p
  · exact hp
  · rw [decide_eq_false hp] at h; cases h
theorem rOnes_fn (l : List Nat) (hl : Byt l) (hlen : l.length ≤ 1000000) : Fn Try.prog 61 [octR l] fun d => d = intD (onesL l) := by
  refine fnOf [] Try.func61 rfl (by kernel_rfl) (Nat.le_of_ble_eq_true rfl) ?_
  conv => whnf
  refine ⟨Nat, fun m => ⟨[(4, intD m), (3, intD (onesL (l.take m))), (0, octR l)], [], 0, ([], 0)⟩, fun m => m % 2 = 0 ∧ m ≤ l.length + 1, fun m => l.length + 1 - m, ⟨0, [], [], ?_, rfl, Nat.zero_le _⟩, ?_⟩
  · repeat' (first | exact trivial | exact .inl (DLe.refl _) | exact .inl (DLe.nil _ _) | (refine .inr ⟨rfl, _, ?_, rfl⟩; rfl) | exact rfl | exact .inl rfl | exact .inr ⟨rfl, rfl, rfl, rfl⟩ | exact Nat.zero_le _ | constructor)
  intro m hk
  obtain ⟨hk0, hk⟩ : m % 2 = 0 ∧ m ≤ l.length + 1 := hk
  have e1 : IntKind.i64.wrap ((m : Int) + 1) = ((m + 1 : Nat) : Int) := wrapN (by omega)
  have e2 : IntKind.i64.wrap ((m : Int) + 2) = ((m + 2 : Nat) : Int) := by rw [IntWalk.i64_in _ (by omega)]; omega
  have hn := onesL_lt (l.take m)
  conv => whnf
  refine Fork.intro (fun q => ?_) (fun q => ?_)
  · have q : m < l.length := by have := of_decide_eq_true q; omega
    obtain ⟨x, hx⟩ : ∃ x, l[m]? = some x := ⟨_, List.getElem?_eq_getElem q⟩
    have hx256 := hl.get hx
    have ex : IntKind.i64.wrap (IntKind.i64.wrap (x : Int) * 256) = ((x * 256 : Nat) : Int) := by
      rw [IntWalk.i64_in (x : Int) (by omega), IntWalk.i64_in _ (by omega)]; omega
    have s1 := smB_take hx
    rw [if_pos (by omega)] at s1
    have fin : ∀ y : Nat, y < 65536 → onesL (l.take (m + 2)) = foldN (smB true (l.take m) + y) → ∀ z : Nat, z = onesL (l.take m) + y → onesL (l.take (m + 2)) = (if 65535 < z then z - 65535 else z) := by
      intro y hy he z hz
      rw [he, ← foldN_add, show foldN (smB true (l.take m)) = onesL (l.take m) from rfl, ← hz]
      split
      · obtain ⟨a, ha⟩ : ∃ a, z = a + 1 := ⟨z - 1, by omega⟩
        subst ha
        show a % 65535 + 1 = _
        omega
      · exact foldN_small (by omega)
    have go : ∀ y : Nat, y < 65536 → onesL (l.take (m + 2)) = foldN (smB true (l.take m) + y) → IntKind.i64.wrap ((onesL (l.take m) : Int) + (y : Int)) = ((onesL (l.take m) + y : Nat) : Int) ∧ (65535 < onesL (l.take m) + y → IntKind.i64.wrap (((onesL (l.take m) + y : Nat) : Int) - 65535) = (onesL (l.take (m + 2)) : Int)) ∧ (¬ 65535 < onesL (l.take m) + y → onesL (l.take m) + y = onesL (l.take (m + 2))) := by
      intro y hy he
      have hf := fin y hy he _ rfl
      refine ⟨wrapK (by omega) (by omega), fun h => ?_, fun h => ?_⟩
      · rw [if_pos h] at hf
        rw [IntWalk.i64_in _ (by omega)]; omega
      · rw [if_neg h] at hf; exact hf.symm
    conv => whnf
    refine ⟨rfl, ⟨by omega, by omega⟩, fun x' hx' => ?_⟩
    obtain rfl : x = x' := Option.some.inj (hx.symm.trans hx')
    conv => whnf
    rw [ex, e1]
    refine Fork.intro (fun q2 => ?_) (fun q2 => ?_)
    · have q2 : m + 1 < l.length := by have := of_decide_eq_true q2; omega
      obtain ⟨y, hy⟩ : ∃ y, l[m + 1]? = some y := ⟨_, List.getElem?_eq_getElem q2⟩
      have hy256 := hl.get hy
      have s2 := smB_take hy
      rw [if_neg (by omega), s1] at s2
      have ey : IntKind.i64.wrap (((x * 256 : Nat) : Int) + IntKind.i64.wrap (y : Int)) = ((x * 256 + y : Nat) : Int) := by
        rw [IntWalk.i64_in (y : Int) (by omega), IntWalk.i64_in _ (by omega)]; omega
      obtain ⟨g1, g2, g3⟩ := go (x * 256 + y) (by omega) (by rw [show m + 2 = m + 1 + 1 from rfl]; unfold onesL; rw [s2]; congr 1; omega)
      conv => whnf
      rw [e1]
      refine ⟨rfl, ⟨by omega, by omega⟩, fun y' hy' => ?_⟩
      obtain rfl : y = y' := Option.some.inj (hy.symm.trans hy')
      conv => whnf
      rw [ey, g1]
      refine Fork.intro (fun q3 => ?_) (fun q3 => ?_)
      · conv => whnf
        rw [g2 (by have := of_decide_eq_true q3; omega), e2]
        refine ⟨m + 2, [], [], ?_, ⟨by show (m + 2) % 2 = 0; omega, by show m + 2 ≤ l.length + 1; omega⟩, by show l.length + 1 - (m + 2) < l.length + 1 - m; omega⟩
        repeat' (first | exact trivial | exact .inl (DLe.refl _) | exact .inl (DLe.nil _ _) | (refine .inr ⟨rfl, _, ?_, rfl⟩; rfl) | exact rfl | exact .inl rfl | exact .inr ⟨rfl, rfl, rfl, rfl⟩ | exact Nat.zero_le _ | constructor)
      · conv => whnf
        rw [g3 (by have := of_decide_eq_false q3; omega), e2]
        refine ⟨m + 2, [], [], ?_, ⟨by show (m + 2) % 2 = 0; omega, by show m + 2 ≤ l.length + 1; omega⟩, by show l.length + 1 - (m + 2) < l.length + 1 - m; omega⟩
        repeat' (first | exact trivial | exact .inl (DLe.refl _) | exact .inl (DLe.nil _ _) | (refine .inr ⟨rfl, _, ?_, rfl⟩; rfl) | exact rfl | exact .inl rfl | exact .inr ⟨rfl, rfl, rfl, rfl⟩ | exact Nat.zero_le _ | constructor)
    · have q2 : l.length = m + 1 := by have := of_decide_eq_false q2; omega
      obtain ⟨g1, g2, g3⟩ := go (x * 256) (by omega) (by rw [List.take_of_length_le (show l.length ≤ m + 2 by omega), ← s1, List.take_of_length_le (by omega)]; rfl)
      conv => whnf
      rw [g1]
      refine Fork.intro (fun q3 => ?_) (fun q3 => ?_)
      · conv => whnf
        rw [g2 (by have := of_decide_eq_true q3; omega), e2]
        refine ⟨m + 2, [], [], ?_, ⟨by show (m + 2) % 2 = 0; omega, by show m + 2 ≤ l.length + 1; omega⟩, by show l.length + 1 - (m + 2) < l.length + 1 - m; omega⟩
        repeat' (first | exact trivial | exact .inl (DLe.refl _) | exact .inl (DLe.nil _ _) | (refine .inr ⟨rfl, _, ?_, rfl⟩; rfl) | exact rfl | exact .inl rfl | exact .inr ⟨rfl, rfl, rfl, rfl⟩ | exact Nat.zero_le _ | constructor)
      · conv => whnf
        rw [g3 (by have := of_decide_eq_false q3; omega), e2]
        refine ⟨m + 2, [], [], ?_, ⟨by show (m + 2) % 2 = 0; omega, by show m + 2 ≤ l.length + 1; omega⟩, by show l.length + 1 - (m + 2) < l.length + 1 - m; omega⟩
        repeat' (first | exact trivial | exact .inl (DLe.refl _) | exact .inl (DLe.nil _ _) | (refine .inr ⟨rfl, _, ?_, rfl⟩; rfl) | exact rfl | exact .inl rfl | exact .inr ⟨rfl, rfl, rfl, rfl⟩ | exact Nat.zero_le _ | constructor)
  · have q : ¬ m < l.length := by have := of_decide_eq_false q; omega
    rw [List.take_of_length_le (by omega)]
    conv => whnf
/-! ### Datagrams, segments -/
end Go.Proofs.Ytfepckbhnghpeaa.V
