/-
  Where an alarm stands in a row, and the row without it. Conditions: rows not too long, no number twice.
-/
import Derived.Test.YtcbpdjikdohegaaOaK
namespace Go.Proofs.Ytcbpdjikdohegaa.V
open Go.RowKit
attribute [local irreducible] Fn FnN OpVC Ob RowFn

theorem place_fn (V : List Al) (n : Int) (hV : V.length ≤ 1000000) : Fn Try.prog 35 [rowsA V, intD n] fun d => d = intD (findI (isId n) V) := by
  refine fnOf [] Try.func35 rfl (by kernel_rfl) (Nat.le_of_ble_eq_true rfl) ?_
  conv => whnf
  refine ⟨Nat, fun k => ⟨[(5, intD k), (1, intD n), (0, rowsA V)], [], 0, ([], 0)⟩,
    fun k => k ≤ V.length ∧ ∀ (j : Nat) u, j < k → V[j]? = some u → isId n u = false, fun k => V.length - k, ⟨0, [], [], ?_, Nat.zero_le _, fun j u h => by omega⟩, ?_⟩
  · repeat' (first | exact trivial | exact .inl (DLe.refl _) | exact .inl (DLe.nil _ _) | (refine .inr ⟨rfl, _, ?_, rfl⟩; rfl) | exact rfl | exact Nat.zero_le _ | constructor)
  · rintro k ⟨hk, hno⟩
    conv => whnf
    refine Fork.intro (fun h1 => ?_) (fun h1 => ?_)
    · have hlt : (k : Int) < V.length := of_decide_eq_true h1
      conv => whnf
      refine ⟨rfl, ⟨by omega, hlt⟩, fun x hx => ?_⟩
      have hxk : V[k]? = some x := by simpa using hx
      conv => whnf
      refine Fork.intro (fun h2 => ?_) (fun h2 => ?_)
      · conv => whnf
        rw [findI_at hxk h2 hno]
      · conv => whnf
        rw [wrap_next (show k < V.length by omega) hV]
        refine ⟨k + 1, [], [], ?_, ⟨by omega, no_next hxk h2 hno⟩, by show V.length - (k + 1) < V.length - k; omega⟩
        repeat' (first | exact trivial | exact .inl (DLe.refl _) | exact .inl (DLe.nil _ _) | (refine .inr ⟨rfl, _, ?_, rfl⟩; rfl) | exact rfl | exact Nat.zero_le _ | constructor)
    · have hge : ¬ (k : Int) < V.length := of_decide_eq_false h1
      conv => whnf
      rw [findI_none (fun j u hj => hno j u (by omega))]

/-- The row that is due, without an alarm. -/
theorem without_vc (F : List (Nat × D)) (now : Int) (R : Nat → List Al) (T U : List Al) (M : List ME) (c : Nat) (V : List Al) (n k0 : Int) {K : D → St → Prop} (hF : F.all (fun p => cutOk 6 53 p.2) = true) (hk : Keys V) (hV : V.length ≤ 1000) (hk0 : k0 = findI (isId n) V)
    (hK : K (.grow 53) ⟨F, (53, .grow Al 58 2 alD (outOf n V)) :: WH now R T U M c (.grow Al 58 2 alD V), 54, ([], 0)⟩) :
    CallVC Try.prog false 36 [.grow 2, intD k0] ⟨F, WH now R T U M c (.grow Al 58 2 alD V), 53, ([], 0)⟩ K := by
  refine toIn 53 [] Try.func36 rfl (by kernel_rfl) (Nat.le_of_ble_eq_true rfl) (by decide) rfl rfl hF ?_
  conv => whnf
  refine ⟨Nat, fun i => ⟨[(6, intD i), (5, .grow 53), (1, intD k0), (0, .grow 2)], (53, .grow Al 58 2 alD (outOf n (V.take i))) :: WH now R T U M c (.grow Al 58 2 alD V), 54, (upto 53 0, 53)⟩,
    fun i => i ≤ V.length, fun i => V.length - i, ⟨0, [], [53], ?_, Nat.zero_le _⟩, ?_⟩
  · repeat' (first | exact trivial | exact .inl (DLe.refl _) | exact .inl (DLe.nil _ _) | (refine .inr ⟨rfl, _, ?_, rfl⟩; rfl) | exact rfl | exact Nat.zero_le _ | constructor)
  · intro i hi
    replace hi : i ≤ V.length := hi
    have hol : (outOf n (V.take i)).length ≤ 1000 := by have := List.length_filter_le (fun a => !isId n a) (V.take i); unfold outOf; rw [List.length_take] at this; omega
    conv => whnf
    cases g1 : decide ((i : Int) < V.length) with
    | true =>
      have hlt : i < V.length := by have := of_decide_eq_true g1; omega
      obtain ⟨x, hx⟩ : ∃ x, V[i]? = some x := ⟨V[i], List.getElem?_eq_getElem hlt⟩
      have hw : IntKind.i64.wrap ((i : Int) + 1) = ((i + 1 : Nat) : Int) := wrap_next (show i < 1000 by omega) (by omega)
      have hsn := outOf_step n hx
      have hat := out_at (n := n) hk hx
      rw [← hk0] at hat
      conv => whnf
      cases g2 : decide ((i : Int) = k0) with
      | true =>
        rw [← hat, g2] at hsn
        replace hsn : outOf n (V.take (i + 1)) = outOf n (V.take i) ++ [] := hsn
        rw [List.append_nil] at hsn
        conv => whnf
        rw [hw]
        refine ⟨i + 1, [], [], ?_, hlt, by show V.length - (i + 1) < V.length - i; omega⟩
        dsimp only
        rw [hsn]
        repeat' (first | exact trivial | exact .inl (DLe.refl _) | exact .inl (DLe.nil _ _) | (refine .inr ⟨rfl, _, ?_, rfl⟩; rfl) | exact rfl | exact Nat.zero_le _ | constructor)
      | false =>
        rw [← hat, g2] at hsn
        replace hsn : outOf n (V.take (i + 1)) = outOf n (V.take i) ++ [x] := hsn
        conv => whnf
        refine ⟨rfl, ⟨by omega, by omega⟩, ?_⟩
        conv => whnf
        refine ⟨rfl, by show (i : Int).toNat < V.length; omega, each_one hx ?_⟩
        conv => whnf
        (refine ⟨Nat.le_of_ble_eq_true rfl, ?_⟩; conv => whnf)
        refine ⟨Al, alD, outOf n (V.take i) ++ [x], (by rw [List.map_append]; rfl), fun _ => rfl, by simp only [List.length_append, List.length_cons, List.length_nil]; omega, by simp only [List.length_append, List.length_cons, List.length_nil]; omega, rfl, ?_⟩
        conv => whnf
        rw [hw]
        refine ⟨i + 1, [(53, 54)], [], ?_, hlt, by show V.length - (i + 1) < V.length - i; omega⟩
        dsimp only
        rw [hsn]
        repeat' (first | exact trivial | exact .inl (DLe.refl _) | exact .inl (DLe.nil _ _) | (refine .inr ⟨rfl, _, ?_, rfl⟩; rfl) | exact rfl | exact Nat.zero_le _ | constructor)
    | false =>
      have hge := of_decide_eq_false g1
      have ht : V.take i = V := List.take_of_length_le (by omega)
      rw [ht]
      conv => whnf
      refine ⟨[], [], .grow 53, (53, .grow Al 58 2 alD (outOf n V)) :: WH now R T U M c (.grow Al 58 2 alD V), 54, ?_, hK⟩
      repeat' (first | exact trivial | exact .inl (DLe.refl _) | exact .inl (DLe.nil _ _) | (refine .inr ⟨rfl, _, ?_, rfl⟩; rfl) | exact rfl | exact Nat.zero_le _ | constructor)
end Go.Proofs.Ytcbpdjikdohegaa.V
