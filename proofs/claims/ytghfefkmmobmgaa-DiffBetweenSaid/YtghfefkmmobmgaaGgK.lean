/-
  Which farms are alike; the law's body. Conditions: short rows, numbers of their types.
-/
import Derived.Test.YtghfefkmmobmgaaK2
namespace Go.Proofs.Ytghfefkmmobmgaa.V
open Go.RowKit
attribute [local irreducible] Fn CallVC OpVC

/-- Are two rows the same, element by element? -/
def rowsEq {α : Type} (p : α → α → Bool) (L M : List α) : Bool := decide (L.length = M.length) && (List.range L.length).all fun j => match L[j]?, M[j]? with
  | some a, some b => p a b
  | _, _ => true
theorem rowsEq_len {α : Type} {p : α → α → Bool} {L M : List α} (h : L.length ≠ M.length) : rowsEq p L M = false := by
  unfold rowsEq; rw [decide_eq_false h, Bool.false_and]
theorem rowsEq_not {α : Type} {p : α → α → Bool} {L M : List α} {k : Nat} {x y : α} (hx : L[k]? = some x) (hy : M[k]? = some y) (h : p x y = false) : rowsEq p L M = false := by
  unfold rowsEq
  rw [← Bool.not_eq_true, Bool.and_eq_true]
  rintro ⟨_, h2⟩
  have := List.all_eq_true.1 h2 k (List.mem_range.2 (List.getElem?_eq_some_iff.1 hx).1)
  rw [hx, hy] at this
  simp only [h] at this
  cases this
theorem rowsEq_all {α : Type} {p : α → α → Bool} {L M : List α} (hl : L.length = M.length) (h : ∀ (j : Nat) x y, j < L.length → L[j]? = some x → M[j]? = some y → p x y = true) : rowsEq p L M = true := by
  unfold rowsEq
  rw [decide_eq_true hl, Bool.true_and, List.all_eq_true]
  intro j hj
  have hj := List.mem_range.1 hj
  rw [List.getElem?_eq_getElem hj, List.getElem?_eq_getElem (by omega)]
  exact h j _ _ hj (List.getElem?_eq_getElem hj) (List.getElem?_eq_getElem (by omega))
theorem eq_next {α : Type} {p : α → α → Bool} {L M : List α} {k : Nat} {x y : α} (hx : L[k]? = some x) (hy : M[k]? = some y) (h : p x y = true) (hno : ∀ (j : Nat) u v, j < k → L[j]? = some u → M[j]? = some v → p u v = true) : ∀ (j : Nat) u v, j < k + 1 → L[j]? = some u → M[j]? = some v → p u v = true := by
  intro j u v hj hu hv
  rcases Nat.lt_succ_iff_lt_or_eq.1 hj with h1 | rfl
  · exact hno j u v h1 hu hv
  · rw [hx] at hu; injection hu with hu; subst hu
    rw [hy] at hv; injection hv with hv; subst hv
    exact h
def eqV (v w : Vip) : Bool := eqD (vipD v) (vipD w)
def eqB (v w : Back) : Bool := eqD (backD v) (backD w)
def plain (b : Back) : Back := { b with up := false }
def likeB (v w : Back) : Bool := eqB { v with up := w.up } w
theorem rowsEq_map {α : Type} {p q : α → α → Bool} {f : α → α} (h : ∀ x y, p (f x) (f y) = q x y) (L M : List α) : rowsEq p (L.map f) (M.map f) = rowsEq q L M := by
  unfold rowsEq
  simp only [List.length_map]
  congr 1
  congr 1
  funext j
  simp only [List.getElem?_map]
  cases L[j]? <;> cases M[j]? <;> simp [h]
theorem like_plain (x y : Back) : eqB (plain x) (plain y) = likeB x y := by
  simp [eqB, likeB, plain, eqD, backD]

theorem equalV_fn (V W : List Vip) (hV : V.length ≤ 1000000) : Fn Try.prog 45 [rowsV V, rowsV W] fun d => d = boolD (rowsEq eqV V W) := by
  refine fnOf [] Try.func45 rfl (by kernel_rfl) (Nat.le_of_ble_eq_true rfl) ?_
  conv => whnf
  refine Fork.intro (fun h1 => ?_) (fun h1 => ?_)
  · conv => whnf
    rw [rowsEq_len (fun h => by rw [h] at h1; simp at h1)]
  · have hl : V.length = W.length := by simp at h1; omega
    conv => whnf
    refine ⟨Nat, fun k => ⟨[(13, intD k), (12, intD V.length), (1, rowsV W), (0, rowsV V)], [], 0, ([], 0)⟩,
      fun k => k ≤ V.length ∧ ∀ (j : Nat) u v, j < k → V[j]? = some u → W[j]? = some v → eqV u v = true, fun k => V.length - k, ⟨0, [], [], ?_, Nat.zero_le _, fun j u v h => absurd h (Nat.not_lt_zero _)⟩, ?_⟩
    · repeat' (first | exact trivial | exact .inl (DLe.refl _) | exact .inl (DLe.nil _ _) | (refine .inr ⟨rfl, _, ?_, rfl⟩; rfl) | exact rfl | exact Nat.zero_le _ | constructor)
    · rintro k ⟨hk, hno⟩
      conv => whnf
      refine Fork.intro (fun h2 => ?_) (fun h2 => ?_)
      · have hlt : (k : Int) < V.length := of_decide_eq_true h2
        conv => whnf
        refine ⟨rfl, ⟨by omega, hlt⟩, fun x hx => ?_⟩
        have hxk : V[k]? = some x := by simpa using hx
        conv => whnf
        refine ⟨rfl, ⟨by omega, by omega⟩, fun y hy => ?_⟩
        have hyk : W[k]? = some y := by simpa using hy
        conv => whnf
        refine ⟨eqVipOk, rfl, ?_⟩
        conv => whnf
        refine Fork.intro (fun h3 => ?_) (fun h3 => ?_)
        · have e : eqV x y = false := by rw [Bool.not_eq_true'] at h3; exact h3
          conv => whnf
          rw [rowsEq_not hxk hyk e]
        · have e : eqV x y = true := by rw [Bool.not_eq_false'] at h3; exact h3
          conv => whnf
          rw [wrap_next (show k < V.length by omega) hV]
          refine ⟨k + 1, [], [], ?_, ⟨by omega, eq_next hxk hyk e hno⟩, by show V.length - (k + 1) < V.length - k; omega⟩
          repeat' (first | exact trivial | exact .inl (DLe.refl _) | exact .inl (DLe.nil _ _) | (refine .inr ⟨rfl, _, ?_, rfl⟩; rfl) | exact rfl | exact Nat.zero_le _ | constructor)
      · have hge : ¬ (k : Int) < V.length := of_decide_eq_false h2
        conv => whnf
        rw [rowsEq_all hl (fun j u v hj => hno j u v (by omega))]

theorem like1_fn (x y : Back) : Fn Try.prog 47 [.agg (backD x), .agg (backD y)] fun d => d = boolD (likeB x y) := by
  refine fnOf [] Try.func47 rfl (by kernel_rfl) (Nat.le_of_ble_eq_true rfl) ?_
  conv => whnf
  refine ⟨eqBackOk, rfl, ?_⟩
  conv => whnf
  rfl

theorem equalFunc_fn (V W : List Back) (hV : V.length ≤ 1000000) : Fn Try.prog 46 [rowsB V, rowsB W, .fn 47 [] []] fun d => d = boolD (rowsEq likeB V W) := by
  refine fnOf [] Try.func46 rfl (by kernel_rfl) (Nat.le_of_ble_eq_true rfl) ?_
  conv => whnf
  refine Fork.intro (fun h1 => ?_) (fun h1 => ?_)
  · conv => whnf
    rw [rowsEq_len (fun h => by rw [h] at h1; simp at h1)]
  · have hl : V.length = W.length := by simp at h1; omega
    conv => whnf
    refine ⟨Nat, fun k => ⟨[(17, intD k), (16, intD V.length), (15, rowsB V), (2, .fn 47 [] []), (1, rowsB W)], [], 0, ([], 0)⟩,
      fun k => k ≤ V.length ∧ ∀ (j : Nat) u v, j < k → V[j]? = some u → W[j]? = some v → likeB u v = true, fun k => V.length - k, ⟨0, [], [], ?_, Nat.zero_le _, fun j u v h => absurd h (Nat.not_lt_zero _)⟩, ?_⟩
    · repeat' (first | exact trivial | exact .inl (DLe.refl _) | exact .inl (DLe.nil _ _) | (refine .inr ⟨rfl, _, ?_, rfl⟩; rfl) | exact rfl | exact Nat.zero_le _ | constructor)
    · rintro k ⟨hk, hno⟩
      conv => whnf
      refine Fork.intro (fun h2 => ?_) (fun h2 => ?_)
      · have hlt : (k : Int) < V.length := of_decide_eq_true h2
        conv => whnf
        refine ⟨rfl, ⟨by omega, hlt⟩, fun x hx => ?_⟩
        have hxk : V[k]? = some x := by simpa using hx
        conv => whnf
        refine ⟨rfl, ⟨by omega, by omega⟩, fun y hy => ?_⟩
        have hyk : W[k]? = some y := by simpa using hy
        conv => whnf
        refine CallVC.pure (like1_fn x y) rfl ?_
        rintro _ rfl
        conv => whnf
        refine Fork.intro (fun h3 => ?_) (fun h3 => ?_)
        · have e : likeB x y = false := by simpa using h3
          conv => whnf
          rw [rowsEq_not hxk hyk e]
        · have e : likeB x y = true := by simpa using h3
          conv => whnf
          rw [wrap_next (show k < V.length by omega) hV]
          refine ⟨k + 1, [], [], ?_, ⟨by omega, eq_next hxk hyk e hno⟩, by show V.length - (k + 1) < V.length - k; omega⟩
          repeat' (first | exact trivial | exact .inl (DLe.refl _) | exact .inl (DLe.nil _ _) | (refine .inr ⟨rfl, _, ?_, rfl⟩; rfl) | exact rfl | exact Nat.zero_le _ | constructor)
      · have hge : ¬ (k : Int) < V.length := of_decide_eq_false h2
        conv => whnf
        rw [rowsEq_all hl (fun j u v hj => hno j u v (by omega))]

theorem dlike_fn (V W : List Vip) (B B' : List Back) (hV : V.length ≤ 1000000) (hB : B.length ≤ 1000000) : Fn Try.prog 17 [farmD V B, farmD W B'] fun d => d = boolD (rowsEq eqV V W && rowsEq likeB B B') := by
  refine fnOf [] Try.func17 rfl (by kernel_rfl) (Nat.le_of_ble_eq_true rfl) ?_
  conv => whnf
  refine CallVC.pure (equalV_fn V W hV) rfl ?_
  rintro _ rfl
  cases h1 : rowsEq eqV V W with
  | false =>
    conv => whnf
    rfl
  | true =>
    conv => whnf
    refine CallVC.pure (equalFunc_fn B B' hB) rfl ?_
    rintro _ rfl
    conv => whnf
    rw [Bool.true_and]

theorem plainly_fn (V : List Vip) (B : List Back) (hB : B.length ≤ 1000) : Fn Try.prog 19 [farmD V B] fun d => d = farmD V (B.map plain) := by
  refine fnOf [] Try.func19 rfl (by kernel_rfl) (Nat.le_of_ble_eq_true rfl) ?_
  conv => whnf
  refine ⟨Nat × List Back, fun p => ⟨[(4, intD p.1), (3, .loc 2 0), (2, .loc 1 0), (1, .loc 0 0)], [(0, .cells 29 [rowsV V, rowsB B]), (1, .cells 29 [.v (.slice none 0 0), .v (.slice none 0 0)]), (2, .cells 29 [rowsV V, .grow 3]), (3, .grow Back 50 6 backD p.2)], 4, ([], 0)⟩,
    fun p => p.1 ≤ B.length ∧ p.2 = (B.take p.1).map plain, fun p => B.length - p.1, ⟨(0, []), [], [3], ?_, Nat.zero_le _, rfl⟩, ?_⟩
  · repeat' (first | exact trivial | exact .inl (DLe.refl _) | exact .inl (DLe.nil _ _) | (refine .inr ⟨rfl, _, ?_, rfl⟩; rfl) | exact rfl | exact Nat.zero_le _ | constructor)
  · rintro ⟨k, L⟩ ⟨hk, hL⟩
    dsimp only at hk hL
    have hlen : L.length ≤ 1000 := by rw [hL, List.length_map, List.length_take]; omega
    conv => whnf
    refine Fork.intro (fun h1 => ?_) (fun h1 => ?_)
    · have hlt : (k : Int) < B.length := of_decide_eq_true h1
      conv => whnf
      refine ⟨rfl, ⟨by omega, hlt⟩, fun x hx => ?_⟩
      have hxk : B[k]? = some x := by simpa using hx
      conv => whnf
      (refine ⟨Nat.le_of_ble_eq_true rfl, ?_⟩; conv => whnf)
      refine ⟨Back, backD, L ++ [plain x], (by rw [List.map_append]; rfl), fun _ => rfl, by simp only [List.length_append, List.length_cons, List.length_nil]; omega, by simp only [List.length_append, List.length_cons, List.length_nil]; omega, rfl, ?_⟩
      conv => whnf
      rw [wrap_next (show k < B.length by omega) (by omega)]
      refine ⟨(k + 1, L ++ [plain x]), [(3, 5)], [], ?_, ⟨by show k + 1 ≤ _; omega, ?_⟩, by show B.length - (k + 1) < B.length - k; omega⟩
      · repeat' (first | exact trivial | exact .inl (DLe.refl _) | exact .inl (DLe.nil _ _) | (refine .inr ⟨rfl, _, ?_, rfl⟩; rfl) | exact rfl | exact Nat.zero_le _ | constructor)
      · show _ = (B.take (k + 1)).map plain
        rw [take_snoc hxk, List.map_append, hL]
        rfl
    · have hge : ¬ (k : Int) < B.length := of_decide_eq_false h1
      rw [List.take_of_length_le (by omega)] at hL
      rw [← hL]
      conv => whnf
      rfl

theorem sameAny_fn (V W : List Vip) (B B' : List Back) (hV : V.length ≤ 1000000) (hB : B.length ≤ 1000000) : Fn Try.prog 18 [farmD V B, farmD W B'] fun d => d = boolD (rowsEq eqV V W && rowsEq eqB B B') := by
  refine fnOf [] Try.func18 rfl (by kernel_rfl) (Nat.le_of_ble_eq_true rfl) ?_
  conv => whnf
  refine Fork.intro (fun h1 => ?_) (fun h1 => ?_)
  · conv => whnf
    rw [rowsEq_len (fun h => by rw [h] at h1; simp at h1)]
    rfl
  · have hl : V.length = W.length := by simp at h1; omega
    conv => whnf
    refine Fork.intro (fun h1 => ?_) (fun h1 => ?_)
    · conv => whnf
      rw [rowsEq_len (L := B) (fun h => by rw [h] at h1; simp at h1), Bool.and_false]
    · have hlb : B.length = B'.length := by simp at h1; omega
      conv => whnf
      refine ⟨Nat, fun k => ⟨[(5, intD k), (3, .loc 1 0), (2, .loc 0 0)], [(0, .cells 29 [rowsV V, rowsB B]), (1, .cells 29 [rowsV W, rowsB B'])], 2, ([], 0)⟩,
        fun k => k ≤ V.length ∧ ∀ (j : Nat) u v, j < k → V[j]? = some u → W[j]? = some v → eqV u v = true, fun k => V.length - k, ⟨0, [], [], ?_, Nat.zero_le _, fun j u v h => absurd h (Nat.not_lt_zero _)⟩, ?_⟩
      · repeat' (first | exact trivial | exact .inl (DLe.refl _) | exact .inl (DLe.nil _ _) | (refine .inr ⟨rfl, _, ?_, rfl⟩; rfl) | exact rfl | exact Nat.zero_le _ | constructor)
      · rintro k ⟨hk, hno⟩
        conv => whnf
        refine Fork.intro (fun h2 => ?_) (fun h2 => ?_)
        · have hlt : (k : Int) < V.length := of_decide_eq_true h2
          conv => whnf
          refine ⟨rfl, ⟨by omega, hlt⟩, fun x hx => ?_⟩
          have hxk : V[k]? = some x := by simpa using hx
          conv => whnf
          refine ⟨rfl, ⟨by omega, by omega⟩, fun y hy => ?_⟩
          have hyk : W[k]? = some y := by simpa using hy
          conv => whnf
          refine ⟨eqVipOk, rfl, ?_⟩
          conv => whnf
          refine Fork.intro (fun h3 => ?_) (fun h3 => ?_)
          · have e : eqV x y = false := by rw [Bool.not_eq_true'] at h3; exact h3
            conv => whnf
            rw [rowsEq_not hxk hyk e]
            rfl
          · have e : eqV x y = true := by rw [Bool.not_eq_false'] at h3; exact h3
            conv => whnf
            rw [wrap_next (show k < V.length by omega) hV]
            refine ⟨k + 1, [], [], ?_, ⟨by omega, eq_next hxk hyk e hno⟩, by show V.length - (k + 1) < V.length - k; omega⟩
            repeat' (first | exact trivial | exact .inl (DLe.refl _) | exact .inl (DLe.nil _ _) | (refine .inr ⟨rfl, _, ?_, rfl⟩; rfl) | exact rfl | exact Nat.zero_le _ | constructor)
        · have hge : ¬ (k : Int) < V.length := of_decide_eq_false h2
          rw [rowsEq_all hl (fun j u v hj => hno j u v (by omega)), Bool.true_and]
          clear hno
          conv => whnf
          refine ⟨Nat, fun k => ⟨[(6, intD k), (3, .loc 1 0), (2, .loc 0 0)], [(0, .cells 29 [rowsV V, rowsB B]), (1, .cells 29 [rowsV W, rowsB B'])], 2, ([], 0)⟩,
            fun k => k ≤ B.length ∧ ∀ (j : Nat) u v, j < k → B[j]? = some u → B'[j]? = some v → eqB u v = true, fun k => B.length - k, ⟨0, [], [], ?_, Nat.zero_le _, fun j u v h => absurd h (Nat.not_lt_zero _)⟩, ?_⟩
          · repeat' (first | exact trivial | exact .inl (DLe.refl _) | exact .inl (DLe.nil _ _) | (refine .inr ⟨rfl, _, ?_, rfl⟩; rfl) | exact rfl | exact Nat.zero_le _ | constructor)
          · rintro k ⟨hk, hno⟩
            conv => whnf
            refine Fork.intro (fun h2 => ?_) (fun h2 => ?_)
            · have hlt : (k : Int) < B.length := of_decide_eq_true h2
              conv => whnf
              refine ⟨rfl, ⟨by omega, hlt⟩, fun x hx => ?_⟩
              have hxk : B[k]? = some x := by simpa using hx
              conv => whnf
              refine ⟨rfl, ⟨by omega, by omega⟩, fun y hy => ?_⟩
              have hyk : B'[k]? = some y := by simpa using hy
              conv => whnf
              refine ⟨eqBackOk, rfl, ?_⟩
              conv => whnf
              refine Fork.intro (fun h3 => ?_) (fun h3 => ?_)
              · have e : eqB x y = false := by rw [Bool.not_eq_true'] at h3; exact h3
                conv => whnf
                rw [rowsEq_not hxk hyk e]
              · have e : eqB x y = true := by rw [Bool.not_eq_false'] at h3; exact h3
                conv => whnf
                rw [wrap_next (show k < B.length by omega) hB]
                refine ⟨k + 1, [], [], ?_, ⟨by omega, eq_next hxk hyk e hno⟩, by show B.length - (k + 1) < B.length - k; omega⟩
                repeat' (first | exact trivial | exact .inl (DLe.refl _) | exact .inl (DLe.nil _ _) | (refine .inr ⟨rfl, _, ?_, rfl⟩; rfl) | exact rfl | exact Nat.zero_le _ | constructor)
            · have hge : ¬ (k : Int) < B.length := of_decide_eq_false h2
              conv => whnf
              rw [rowsEq_all hlb (fun j u v hj => hno j u v (by omega))]

theorem great_fn (V : List Vip) (B : List Back) : Fn Try.prog 14 [farmD V B] fun d => d = boolD (decide (10 < V.length) || decide (20 < B.length)) := by
  refine fnOf [] Try.func14 rfl (by kernel_rfl) (Nat.le_of_ble_eq_true rfl) ?_
  conv => whnf
  refine Fork.intro (fun h1 => ?_) (fun h1 => ?_)
  · have h : 10 < V.length := by have := of_decide_eq_true h1; omega
    conv => whnf
    rw [decide_eq_true h]
    rfl
  · have h : ¬ 10 < V.length := by have := of_decide_eq_false h1; omega
    conv => whnf
    rw [decide_eq_false h, Bool.false_or]
    congr 2
    exact decide_eq_decide.2 (by omega)

theorem diff_lives (w : World) : Calls Try.prog 13 #[] w fun e w' => e = .returned (.bool true) ∧ Below w.heap.size w w' :=
  lives_of (steps := 100000) (d := 60) (by kernel_rfl) w
theorem dlives_fn : Fn Try.prog 13 [] fun d => d = boolD true := by
  unfold Fn
  refine ⟨⟨_, Try.func13, rfl⟩, fun w B vs _ hr => ?_⟩
  have : vs = [] := List.eq_nil_of_length_eq_zero hr.1
  subst this
  exact (diff_lives w).mono fun e w' ⟨h1, h2⟩ => ⟨_, _, rfl, h1, h2, .v⟩
end Go.Proofs.Ytghfefkmmobmgaa.V
