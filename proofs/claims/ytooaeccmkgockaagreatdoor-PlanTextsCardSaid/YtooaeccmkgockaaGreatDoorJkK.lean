/-
  The document's reading of a line by value. Conditions: a text of bytes, not too long. (printed by gen_jk.py)
-/
import Derived.Test.YtooaeccmkgockaaGreatDoorJjK
namespace Go.Proofs.YtooaeccmkgockaaGreatDoor.V
open Go.RowKit
attribute [local irreducible] Fn FnN OpVC

set_option maxHeartbeats 1000000 in
theorem value_fn (l : List Nat) (hl : Byt l) (hlen : l.length ≤ 100000) : Fn Tryz.prog 34 [strD l] fun d => d = intD (valR l) := by
  refine fnOf [] Tryz.func34 rfl (by kernel_rfl) (Nat.le_of_ble_eq_true rfl) ?_
  have hsz : ((strB l).size : Int) = (l.length : Int) := by rw [strB_size]
  conv => whnf
  refine ⟨Nat × Nat, fun g => ⟨[(4, intD g.1), (3, intD g.2), (0, strD l)], [], 0, ([], 0)⟩,
    fun g => g.1 ≤ l.length ∧ g.2 ≤ 655359 ∧ valR l = numS 99999 (l.drop g.1) g.2, fun g => l.length - g.1, ⟨(0, 0), [], [], ?_, Nat.zero_le _, Nat.zero_le _, rfl⟩, ?_⟩
  · repeat' (first | exact trivial | exact .inl (DLe.refl _) | exact .inl (DLe.nil _ _) | (refine .inr ⟨rfl, _, ?_, rfl⟩; rfl) | exact rfl | exact Nat.zero_le _ | constructor)
  · rintro ⟨k, n⟩ ⟨hk, hn, hs⟩
    dsimp only at hk hn hs
    dsimp only
    conv => whnf
    refine Fork.intro (fun h1 => ?_) (fun h1 => ?_)
    · have h1 := of_decide_eq_true h1
      have hlt : k < l.length := by omega
      obtain ⟨x, hx⟩ : ∃ x, l[k]? = some x := ⟨_, List.getElem?_eq_getElem hlt⟩
      have hx256 := hl.get hx
      have hnx := numS_next (bad := 99999) hx hs
      replace hnx : valR l = _ := hnx
      have hget : ∀ b, (strB l)[k]? = some b → b.toNat = x := fun b hb => by
        have := strB_get hl hb
        rw [hx] at this
        injection this with this
        exact this.symm
      have e0 : IntKind.i64.wrap ((k : Int) + 1) = ((k + 1 : Nat) : Int) := wrap_next (n := 100001) (by omega) (by decide)
      have g1 := isDig x
      conv => whnf
      refine ⟨⟨by omega, by omega⟩, fun b hb => ?_⟩
      rw [hget b (by simpa using hb)]
      clear hb
      conv => whnf
      refine Fork.intro (fun g => ?_) (fun g => ?_)
      · have g := of_decide_eq_true g
        rw [show isDig x = false by unfold isDig; rw [decide_eq_false (show ¬ 48 ≤ x by omega)]; rfl] at hnx
        rw [hnx]
        conv => whnf
        rfl
      · have g := of_decide_eq_false g
        conv => whnf
        refine ⟨⟨by omega, by omega⟩, fun b hb => ?_⟩
        rw [hget b (by simpa using hb)]
        clear hb
        conv => whnf
        refine Fork.intro (fun g2 => ?_) (fun g2 => ?_)
        · have g2 := of_decide_eq_true g2
          rw [show isDig x = false by unfold isDig; rw [decide_eq_false (show ¬ x ≤ 57 by omega)]; simp] at hnx
          rw [hnx]
          conv => whnf
          rfl
        · have g2 := of_decide_eq_false g2
          rw [show isDig x = true by unfold isDig; rw [decide_eq_true (show 48 ≤ x by omega), decide_eq_true (show x ≤ 57 by omega)]; rfl] at hnx
          conv => whnf
          refine Fork.intro (fun g3 => ?_) (fun g3 => ?_)
          · have g3 := of_decide_eq_true g3
            rw [decide_eq_true (show 65535 < n by omega)] at hnx
            have hnx : valR l = 99999 := hnx
            rw [hnx]
            conv => whnf
          · have g3 := of_decide_eq_false g3
            rw [decide_eq_false (show ¬ 65535 < n by omega)] at hnx
            conv => whnf
            refine ⟨⟨by omega, by omega⟩, fun b hb => ?_⟩
            rw [hget b (by simpa using hb)]
            clear hb
            conv => whnf
            have e : IntKind.i64.wrap (IntKind.i64.wrap ((n : Int) * 10) + IntKind.i64.wrap (IntKind.u8.wrap ((x : Int) - 48))) = ((n * 10 + (x - 48) : Nat) : Int) := by
              rw [u8_small (n := (x : Int) - 48) (by omega), IntWalk.i64_in (_ - _) (by omega), IntWalk.i64_in (_ * _) (by omega), IntWalk.i64_in _ (by omega)]; omega
            rw [e, e0]
            refine ⟨(k + 1, n * 10 + (x - 48)), [], [], ?_, ⟨hlt, by show n * 10 + (x - 48) ≤ 655359; omega, hnx⟩, by show l.length - (k + 1) < l.length - k; omega⟩
            repeat' (first | exact trivial | exact .inl (DLe.refl _) | exact .inl (DLe.nil _ _) | (refine .inr ⟨rfl, _, ?_, rfl⟩; rfl) | exact rfl | exact Nat.zero_le _ | constructor)
    · have h1 := of_decide_eq_false h1
      obtain rfl : k = l.length := by omega
      rw [hs, List.drop_length, numS]
      conv => whnf
theorem named_fn (l : List Nat) (hl : Byt l) : Fn Tryz.prog 35 [strD l] fun d => d = intD (named l) := by
  refine fnOf [] Tryz.func35 rfl (by kernel_rfl) (Nat.le_of_ble_eq_true rfl) ?_
  conv => whnf
  refine Fork.intro (fun h => ?_) (fun h => ?_)
  · have h := (str_is (t := wDirect) hl (byt_of rfl) h).1 rfl
    unfold named
    rw [decide_eq_true h]
    conv => whnf
  · have h := (str_is (t := wDirect) hl (byt_of rfl) h).2 rfl
    unfold named
    rw [decide_eq_false h]
    conv => whnf
    refine Fork.intro (fun h2 => ?_) (fun h2 => ?_)
    · have h2 := (str_is (t := wProxy) hl (byt_of rfl) h2).1 rfl
      rw [decide_eq_true h2]
      conv => whnf
    · have h2 := (str_is (t := wProxy) hl (byt_of rfl) h2).2 rfl
      rw [decide_eq_false h2]
      conv => whnf

/-! ### Words -/
theorem drop_split {l : List Nat} {f i x : Nat} (h : f ≤ i) (hx : l[i]? = some x) : l.drop f = (l.take i).drop f ++ x :: l.drop (i + 1) := by
  have hi := (List.getElem?_eq_some_iff.1 hx).1
  have e : l = l.take i ++ x :: l.drop (i + 1) := take_drop_at hx
  conv => lhs; rw [e]
  rw [List.drop_append_of_le_length (by rw [List.length_take]; omega)]
def WdAt (p : Nat → Bool) (l : List Nat) (g : Nat × Nat × List (List Nat)) : Prop :=
  g.2.2.length ≤ g.1 ∧ ((g.1 ≤ l.length ∧ g.2.1 ≤ g.1 ∧ (∀ c, c ∈ (l.take g.1).drop g.2.1 → p c = false) ∧ splB p l = g.2.2 ++ splB p (l.drop g.2.1)) ∨ (g.1 = l.length + 1 ∧ g.2.2 = splB p l))
theorem WdAt.last {p : Nat → Bool} {l : List Nat} {f : Nat} {out : List (List Nat)} (h : WdAt p l (l.length, f, out)) : f ≤ l.length ∧ WdAt p l (l.length + 1, l.length + 1, out ++ [(l.take l.length).drop f]) := by
  obtain ⟨h0, h | h⟩ := h
  · obtain ⟨h1, h2, h3, h4⟩ := h
    dsimp only at *
    refine ⟨h2, by show (out ++ _).length ≤ _; simp; omega, .inr ⟨rfl, ?_⟩⟩
    show out ++ [(l.take l.length).drop f] = _
    rw [List.take_length] at h3 ⊢
    rw [h4, splB_one h3]
  · dsimp only at h; omega
theorem WdAt.sep {p : Nat → Bool} {l : List Nat} {i f x : Nat} {out : List (List Nat)} (h : WdAt p l (i, f, out)) (hx : l[i]? = some x) (hp : p x = true) : f ≤ i ∧ WdAt p l (i + 1, i + 1, out ++ [(l.take i).drop f]) := by
  have hi := (List.getElem?_eq_some_iff.1 hx).1
  obtain ⟨h0, h | h⟩ := h
  · obtain ⟨h1, h2, h3, h4⟩ := h
    dsimp only at *
    refine ⟨h2, by show (out ++ _).length ≤ _; simp; omega, .inl ⟨hi, Nat.le_refl _, fun c hc => ?_, ?_⟩⟩
    · replace hc : c ∈ (l.take (i + 1)).drop (i + 1) := hc
      rw [List.drop_eq_nil_of_le (by rw [List.length_take]; omega)] at hc; cases hc
    · show splB p l = (out ++ [(l.take i).drop f]) ++ splB p (l.drop (i + 1))
      rw [h4, drop_split h2 hx, splB_app h3 hp, List.append_assoc]; rfl
  · dsimp only at h; omega
theorem WdAt.go {p : Nat → Bool} {l : List Nat} {i f x : Nat} {out : List (List Nat)} (h : WdAt p l (i, f, out)) (hx : l[i]? = some x) (hp : p x = false) : WdAt p l (i + 1, f, out) := by
  have hi := (List.getElem?_eq_some_iff.1 hx).1
  obtain ⟨h0, h | h⟩ := h
  · obtain ⟨h1, h2, h3, h4⟩ := h
    dsimp only at *
    refine ⟨by show out.length ≤ _; omega, .inl ⟨hi, by show f ≤ i + 1; omega, fun c hc => ?_, h4⟩⟩
    replace hc : c ∈ (l.take (i + 1)).drop f := hc
    rw [List.take_add_one, hx, List.drop_append_of_le_length (by rw [List.length_take]; omega)] at hc
    rcases List.mem_append.1 hc with hc | hc
    · exact h3 c hc
    · have : c = x := by simpa using hc
      rw [this]; exact hp
  · dsimp only at h; omega

set_option maxHeartbeats 1000000 in
theorem words_fn (l : List Nat) (hl : Byt l) (hlen : l.length ≤ 100000) : Fn Tryz.prog 32 [strD l] fun d => d = rowsT (splB blC l) := by
  refine fnOf [] Tryz.func32 rfl (by kernel_rfl) (Nat.le_of_ble_eq_true rfl) ?_
  have hsz : ((strB l).size : Int) = (l.length : Int) := by rw [strB_size]
  conv => whnf
  refine ⟨Nat × Nat × List (List Nat), fun g => ⟨[(5, intD g.1), (4, intD g.2.1), (3, .grow 0), (0, strD l)], [(0, .grow (List Nat) 9 1 strE g.2.2)], 1, ([], 0)⟩,
    WdAt blC l, fun g => l.length + 1 - g.1, ⟨(0, 0, []), [], [0], ?_, Nat.le_refl _, .inl ⟨Nat.zero_le _, Nat.le_refl _, fun c hc => (by simp at hc), rfl⟩⟩, ?_⟩
  · repeat' (first | exact trivial | exact .inl (DLe.refl _) | exact .inl (DLe.nil _ _) | (refine .inr ⟨rfl, _, ?_, rfl⟩; rfl) | exact rfl | exact Nat.zero_le _ | constructor)
  · rintro ⟨k, f, out⟩ hg
    dsimp only
    have hol := hg.1
    dsimp only at hol
    have hk : k ≤ l.length + 1 := by
      rcases hg.2 with h | h
      · have := h.1; dsimp only at this; omega
      · have := h.1; dsimp only at this; omega
    have e0 : IntKind.i64.wrap ((k : Int) + 1) = ((k + 1 : Nat) : Int) := wrap_next (n := 100002) (by omega) (by decide)
    conv => whnf
    refine Fork.intro (fun h1 => ?_) (fun h1 => ?_)
    · have h1 := of_decide_eq_true h1
      conv => whnf
      refine Fork.intro (fun h2 => ?_) (fun h2 => ?_)
      · have h2 := of_decide_eq_true h2
        obtain rfl : k = l.length := by omega
        obtain ⟨hf, hn⟩ := hg.last
        conv => whnf
        refine ⟨⟨by omega, by omega, by omega⟩, ?_⟩
        rw [strB_extract]
        conv => whnf
        refine ⟨by decide, ?_⟩
        conv => whnf
        refine ⟨List Nat, strE, out ++ [(l.take l.length).drop f], (by rw [List.map_append]; rfl), fun _ => rfl, by rw [List.length_append]; show out.length + 1 ≤ _; omega, by rw [List.length_append]; show (out.length + 1) * 16 ≤ _; omega, rfl, ?_⟩
        conv => whnf
        rw [e0]
        refine ⟨(l.length + 1, l.length + 1, out ++ [(l.take l.length).drop f]), [(0, 1)], [], ?_, hn, by show l.length + 1 - (l.length + 1) < l.length + 1 - l.length; omega⟩
        repeat' (first | exact trivial | exact .inl (DLe.refl _) | exact .inl (DLe.nil _ _) | (refine .inr ⟨rfl, _, ?_, rfl⟩; rfl) | exact rfl | exact Nat.zero_le _ | constructor)
      · have h2 := of_decide_eq_false h2
        have hlt : k < l.length := by omega
        obtain ⟨x, hx⟩ : ∃ x, l[k]? = some x := ⟨_, List.getElem?_eq_getElem hlt⟩
        have hget : ∀ b, (strB l)[k]? = some b → b.toNat = x := fun b hb => by
          have := strB_get hl hb
          rw [hx] at this
          injection this with this
          exact this.symm
        have sep : blC x = true → ∃ hf : f ≤ k, WdAt blC l (k + 1, k + 1, out ++ [(l.take k).drop f]) := fun h => (hg.sep hx h).elim fun a b => ⟨a, b⟩
        have go : blC x = false → WdAt blC l (k + 1, f, out) := fun h => hg.go hx h
        conv => whnf
        refine ⟨⟨by omega, by omega⟩, fun b hb => ?_⟩
        rw [hget b (by simpa using hb)]
        clear hb
        conv => whnf
        refine Fork.intro (fun g => ?_) (fun g => ?_)
        · have g := of_decide_eq_true g
          obtain ⟨hf, hn⟩ := sep (by unfold blC; rw [decide_eq_true (show x = 32 by omega)]; rfl)
          conv => whnf
          refine ⟨⟨by omega, by omega, by omega⟩, ?_⟩
          rw [strB_extract]
          conv => whnf
          refine ⟨by decide, ?_⟩
          conv => whnf
          refine ⟨List Nat, strE, out ++ [(l.take k).drop f], (by rw [List.map_append]; rfl), fun _ => rfl, by rw [List.length_append]; show out.length + 1 ≤ _; omega, by rw [List.length_append]; show (out.length + 1) * 16 ≤ _; omega, rfl, ?_⟩
          conv => whnf
          rw [e0]
          refine ⟨(k + 1, k + 1, out ++ [(l.take k).drop f]), [(0, 1)], [], ?_, hn, by show l.length + 1 - (k + 1) < l.length + 1 - k; omega⟩
          repeat' (first | exact trivial | exact .inl (DLe.refl _) | exact .inl (DLe.nil _ _) | (refine .inr ⟨rfl, _, ?_, rfl⟩; rfl) | exact rfl | exact Nat.zero_le _ | constructor)
        · have g := of_decide_eq_false g
          conv => whnf
          refine ⟨⟨by omega, by omega⟩, fun b hb => ?_⟩
          rw [hget b (by simpa using hb)]
          clear hb
          conv => whnf
          refine Fork.intro (fun g2 => ?_) (fun g2 => ?_)
          · have g2 := of_decide_eq_true g2
            obtain ⟨hf, hn⟩ := sep (by unfold blC; rw [decide_eq_true (show x = 58 by omega)]; simp)
            conv => whnf
            refine ⟨⟨by omega, by omega, by omega⟩, ?_⟩
            rw [strB_extract]
            conv => whnf
            refine ⟨by decide, ?_⟩
            conv => whnf
            refine ⟨List Nat, strE, out ++ [(l.take k).drop f], (by rw [List.map_append]; rfl), fun _ => rfl, by rw [List.length_append]; show out.length + 1 ≤ _; omega, by rw [List.length_append]; show (out.length + 1) * 16 ≤ _; omega, rfl, ?_⟩
            conv => whnf
            rw [e0]
            refine ⟨(k + 1, k + 1, out ++ [(l.take k).drop f]), [(0, 1)], [], ?_, hn, by show l.length + 1 - (k + 1) < l.length + 1 - k; omega⟩
            repeat' (first | exact trivial | exact .inl (DLe.refl _) | exact .inl (DLe.nil _ _) | (refine .inr ⟨rfl, _, ?_, rfl⟩; rfl) | exact rfl | exact Nat.zero_le _ | constructor)
          · have g2 := of_decide_eq_false g2
            have hn := go (by unfold blC; rw [decide_eq_false (show ¬ x = 32 by omega), decide_eq_false (show ¬ x = 58 by omega)]; rfl)
            conv => whnf
            rw [e0]
            refine ⟨(k + 1, f, out), [], [], ?_, hn, by show l.length + 1 - (k + 1) < l.length + 1 - k; omega⟩
            repeat' (first | exact trivial | exact .inl (DLe.refl _) | exact .inl (DLe.nil _ _) | (refine .inr ⟨rfl, _, ?_, rfl⟩; rfl) | exact rfl | exact Nat.zero_le _ | constructor)
    · have h1 := of_decide_eq_false h1
      have ho : out = splB blC l := by
        rcases hg.2 with h | h
        · have := h.1; dsimp only at this; omega
        · exact h.2
      rw [← ho]
      conv => whnf
end Go.Proofs.YtooaeccmkgockaaGreatDoor.V
