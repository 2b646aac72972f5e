/-
  Farms: the reference's orders. Conditions: numbers are of their types; a farm is short.
-/
import Derived.Test.YtghfefkmmobmgaaFv
namespace Go.Proofs.Ytghfefkmmobmgaa.V
open Go.RowKit
attribute [local irreducible] Fn CallVC OpVC

/-- In its place, by a key. -/
def insBy {α : Type} (key : α → Int) (x : α) : List α → List α
  | [] => [x]
  | y :: r => match decide (key x < key y) with
    | true => x :: y :: r
    | false => y :: insBy key x r
def anyOver {α : Type} (key : α → Int) (x : α) (l : List α) : Bool := l.any fun y => decide (key x < key y)
def insSoFar {α : Type} (key : α → Int) (x : α) (l : List α) : List α := match anyOver key x l with
  | true => insBy key x l
  | false => l
theorem any_snoc {α : Type} (key : α → Int) (x y : α) (l : List α) : anyOver key x (l ++ [y]) = (anyOver key x l || decide (key x < key y)) := by simp [anyOver]
theorem ins_snoc_in {α : Type} (key : α → Int) (x y : α) : ∀ (l : List α), anyOver key x l = true → insBy key x (l ++ [y]) = insBy key x l ++ [y]
  | [], h => by cases h
  | z :: r, h => by
    simp only [List.cons_append, insBy]
    cases hz : decide (key x < key z) with
    | true => rfl
    | false =>
      have : anyOver key x r = true := by simpa [anyOver, hz] using h
      simp only [List.cons_append]
      rw [ins_snoc_in key x y r this]
theorem ins_snoc_here {α : Type} (key : α → Int) (x y : α) (hy : decide (key x < key y) = true) : ∀ (l : List α), anyOver key x l = false → insBy key x (l ++ [y]) = l ++ [x, y]
  | [], _ => by simp [insBy, hy]
  | z :: r, h => by
    simp only [anyOver, List.any_cons, Bool.or_eq_false_iff] at h
    simp only [List.cons_append, insBy, h.1]
    rw [ins_snoc_here key x y hy r h.2]
theorem ins_none {α : Type} (key : α → Int) (x : α) : ∀ (l : List α), anyOver key x l = false → insBy key x l = l ++ [x]
  | [], _ => rfl
  | z :: r, h => by
    simp only [anyOver, List.any_cons, Bool.or_eq_false_iff] at h
    simp only [List.cons_append, insBy, h.1]
    rw [ins_none key x r h.2]
theorem take_snoc {α : Type} {L : List α} {k : Nat} {x : α} (h : L[k]? = some x) : L.take (k + 1) = L.take k ++ [x] := by
  rw [List.take_add_one, h]; rfl
theorem soFar_in {α : Type} {key : α → Int} {x y : α} {l : List α} (h : anyOver key x l = true) : insSoFar key x (l ++ [y]) = insSoFar key x l ++ [y] := by
  unfold insSoFar
  rw [any_snoc, h, Bool.true_or, ins_snoc_in key x y l h]
theorem soFar_here {α : Type} {key : α → Int} {x y : α} {l : List α} (h : anyOver key x l = false) (hy : decide (key x < key y) = true) : insSoFar key x (l ++ [y]) = (insSoFar key x l ++ [x]) ++ [y] := by
  unfold insSoFar
  rw [any_snoc, h, hy, Bool.or_true, ins_snoc_here key x y hy l h]; simp
theorem soFar_not {α : Type} {key : α → Int} {x y : α} {l : List α} (h : anyOver key x l = false) (hy : decide (key x < key y) = false) : insSoFar key x (l ++ [y]) = insSoFar key x l ++ [y] := by
  unfold insSoFar
  rw [any_snoc, h, hy, Bool.or_false]
theorem soFar_end {α : Type} {key : α → Int} {x : α} {l : List α} : insBy key x l = match anyOver key x l with
    | true => insSoFar key x l
    | false => insSoFar key x l ++ [x] := by
  cases h : anyOver key x l with
  | true => simp [insSoFar, h]
  | false => simp [insSoFar, h, ins_none key x l h]
theorem soFar_len {α : Type} {key : α → Int} {x : α} {l : List α} : (insSoFar key x l).length ≤ l.length + 1 := by
  have : ∀ l : List α, (insBy key x l).length = l.length + 1 := by
    intro l
    induction l with
    | nil => rfl
    | cons y r ih => simp only [insBy]; split <;> simp [ih]
  unfold insSoFar
  split
  · rw [this]; exact Nat.le_refl _
  · omega

def addV (V : List Vip) (v : Vip) : List Vip × Int := match goodV v with
  | false => (V, 2)
  | true => match decide (findI (fun u => decide (u.id = v.id)) V ≥ 0) || decide (findI (sameAt v.addr v.port v.proto) V ≥ 0) with
    | true => (V, 9)
    | false => match decide ((V.length : Int) = 4) with
      | true => (V, 7)
      | false => (insBy Vip.id v V, 0)

theorem addVip_fn (V : List Vip) (B : List Back) (v : Vip) (hv : v.ok) (hV : V.length ≤ 4) : Fn Try.prog 67 [farmD V B, .agg (vipD v)] fun d => d = .tup [farmD (addV V v).1 B, intD (addV V v).2] := by
  refine fnOf [] Try.func67 rfl (by kernel_rfl) (Nat.le_of_ble_eq_true rfl) ?_
  conv => whnf
  refine CallVC.pure (goodVip_fn v hv) rfl ?_
  rintro _ rfl
  conv => whnf
  refine Fork.intro (fun h1 => ?_) (fun h1 => ?_)
  · conv => whnf
    simp only [Bool.not_eq_true'] at h1
    simp only [addV, h1]
    rfl
  simp only [Bool.not_eq_false'] at h1
  conv => whnf
  refine CallVC.pure (vipAt_fn V B v.id (by omega)) rfl ?_
  rintro _ rfl
  conv => whnf
  refine Fork.intro (fun h2 => ?_) (fun h2 => ?_)
  · conv => whnf
    simp only [addV, h1, ge_iff_le, h2, Bool.true_or]
    rfl
  conv => whnf
  refine CallVC.pure (where_fn V B v.addr v.port v.proto (by omega)) rfl ?_
  rintro _ rfl
  conv => whnf
  refine Fork.intro (fun h3 => ?_) (fun h3 => ?_)
  · conv => whnf
    simp only [addV, h1, ge_iff_le, h2, h3, Bool.false_or]
    rfl
  conv => whnf
  refine Fork.intro (fun h4 => ?_) (fun h4 => ?_)
  · conv => whnf
    simp only [addV, h1, ge_iff_le, h2, h3, Bool.false_or, h4]
    rfl
  have hres : addV V v = (insBy Vip.id v V, 0) := by simp only [addV, h1, ge_iff_le, h2, h3, Bool.false_or, h4]
  rw [hres]
  have hlen : V.length < 4 := by
    have := of_decide_eq_false h4
    omega
  clear h1 h2 h3 h4 hres
  conv => whnf
  refine ⟨Nat × Bool × List Vip, fun p => ⟨[(8, intD p.1), (7, boolD p.2.1), (6, .loc 3 0), (5, intD 0), (4, .loc 2 0), (3, .loc 1 0), (2, .loc 0 0)], [(0, .cells 29 [rowsV V, rowsB B]), (1, .cells 45 (vipD v)), (2, .cells 29 [.v (.slice none 0 0), .v (.slice none 0 0)]), (3, .cells 29 [.grow 4, rowsB B]), (4, .grow Vip 45 5 vipD p.2.2)], 5, ([], 0)⟩,
    fun p => p.1 ≤ V.length ∧ p.2.1 = anyOver Vip.id v (V.take p.1) ∧ p.2.2 = insSoFar Vip.id v (V.take p.1), fun p => V.length - p.1, ⟨(0, false, []), [], [4], ?_, Nat.zero_le _, rfl, rfl⟩, ?_⟩
  · repeat' (first | exact trivial | exact .inl (DLe.refl _) | exact .inl (DLe.nil _ _) | (refine .inr ⟨rfl, _, ?_, rfl⟩; rfl) | exact rfl | exact Nat.zero_le _ | constructor)
  · rintro ⟨k, b, L⟩ ⟨hk, hb, hL⟩
    dsimp only at hk hb hL
    conv => whnf
    refine Fork.intro (fun h1 => ?_) (fun h1 => ?_)
    · have hlt : (k : Int) < V.length := of_decide_eq_true h1
      have hll : L.length ≤ k + 1 := by rw [hL]; exact Nat.le_trans soFar_len (by simp; omega)
      conv => whnf
      refine Fork.intro (fun h2 => ?_) (fun h2 => ?_)
      · conv => whnf
        replace h2 : b = false := by simpa using h2
        refine ⟨rfl, ⟨by show (0 : Int) ≤ k; omega, hlt⟩, fun x hx => ?_⟩
        have hxk : V[k]? = some x := by simpa using hx
        conv => whnf
        refine Fork.intro (fun h3 => ?_) (fun h3 => ?_)
        · conv => whnf
          (refine ⟨Nat.le_of_ble_eq_true rfl, ?_⟩; conv => whnf)
          refine ⟨Vip, vipD, L ++ [v], (by rw [List.map_append]; rfl), fun _ => rfl, by simp only [List.length_append, List.length_cons, List.length_nil]; omega, by simp only [List.length_append, List.length_cons, List.length_nil]; omega, rfl, ?_⟩
          conv => whnf
          refine ⟨rfl, ⟨by show (0 : Int) ≤ k; omega, hlt⟩, fun x' hx' => ?_⟩
          obtain rfl : x = x' := by simpa using hx.symm.trans hx'
          conv => whnf
          (refine ⟨Nat.le_of_ble_eq_true rfl, ?_⟩; conv => whnf)
          refine ⟨Vip, vipD, (L ++ [v]) ++ [x], (by rw [List.map_append]; rfl), fun _ => rfl, by simp only [List.length_append, List.length_cons, List.length_nil]; omega, by simp only [List.length_append, List.length_cons, List.length_nil]; omega, rfl, ?_⟩
          conv => whnf
          rw [wrap_next (show k < V.length by omega) (by omega)]
          refine ⟨(k + 1, true, (L ++ [v]) ++ [x]), [(4, 6)], [], ?_, ⟨by show k + 1 ≤ _; omega, ?_, ?_⟩, by show V.length - (k + 1) < V.length - k; omega⟩
          · repeat' (first | exact trivial | exact .inl (DLe.refl _) | exact .inl (DLe.nil _ _) | (refine .inr ⟨rfl, _, ?_, rfl⟩; rfl) | exact rfl | exact Nat.zero_le _ | constructor)
          · show _ = anyOver Vip.id v (V.take (k + 1))
            rw [take_snoc hxk, any_snoc, ← hb, h3, Bool.or_true]
          · show _ = insSoFar Vip.id v (V.take (k + 1))
            rw [take_snoc hxk, soFar_here (hb.symm.trans h2) h3, ← hL]
        · conv => whnf
          refine ⟨rfl, ⟨by show (0 : Int) ≤ k; omega, hlt⟩, fun x' hx' => ?_⟩
          obtain rfl : x = x' := by simpa using hx.symm.trans hx'
          conv => whnf
          (refine ⟨Nat.le_of_ble_eq_true rfl, ?_⟩; conv => whnf)
          refine ⟨Vip, vipD, L ++ [x], (by rw [List.map_append]; rfl), fun _ => rfl, by simp only [List.length_append, List.length_cons, List.length_nil]; omega, by simp only [List.length_append, List.length_cons, List.length_nil]; omega, rfl, ?_⟩
          conv => whnf
          rw [wrap_next (show k < V.length by omega) (by omega)]
          refine ⟨(k + 1, b, L ++ [x]), [(4, 5)], [], ?_, ⟨by show k + 1 ≤ _; omega, ?_, ?_⟩, by show V.length - (k + 1) < V.length - k; omega⟩
          · repeat' (first | exact trivial | exact .inl (DLe.refl _) | exact .inl (DLe.nil _ _) | (refine .inr ⟨rfl, _, ?_, rfl⟩; rfl) | exact rfl | exact Nat.zero_le _ | constructor)
          · show _ = anyOver Vip.id v (V.take (k + 1))
            rw [take_snoc hxk, any_snoc, ← hb, h3, Bool.or_false]
          · show _ = insSoFar Vip.id v (V.take (k + 1))
            rw [take_snoc hxk, soFar_not (hb.symm.trans h2) h3, ← hL]
      · conv => whnf
        replace h2 : b = true := by simpa using h2
        refine ⟨rfl, ⟨by show (0 : Int) ≤ k; omega, hlt⟩, fun x hx => ?_⟩
        have hxk : V[k]? = some x := by simpa using hx
        conv => whnf
        (refine ⟨Nat.le_of_ble_eq_true rfl, ?_⟩; conv => whnf)
        refine ⟨Vip, vipD, L ++ [x], (by rw [List.map_append]; rfl), fun _ => rfl, by simp only [List.length_append, List.length_cons, List.length_nil]; omega, by simp only [List.length_append, List.length_cons, List.length_nil]; omega, rfl, ?_⟩
        conv => whnf
        rw [wrap_next (show k < V.length by omega) (by omega)]
        refine ⟨(k + 1, b, L ++ [x]), [(4, 5)], [], ?_, ⟨by show k + 1 ≤ _; omega, ?_, ?_⟩, by show V.length - (k + 1) < V.length - k; omega⟩
        · repeat' (first | exact trivial | exact .inl (DLe.refl _) | exact .inl (DLe.nil _ _) | (refine .inr ⟨rfl, _, ?_, rfl⟩; rfl) | exact rfl | exact Nat.zero_le _ | constructor)
        · show _ = anyOver Vip.id v (V.take (k + 1))
          rw [take_snoc hxk, any_snoc, ← hb, h2, Bool.true_or]
        · show _ = insSoFar Vip.id v (V.take (k + 1))
          rw [take_snoc hxk, soFar_in (hb.symm.trans h2), ← hL]
    · have hge : ¬ (k : Int) < V.length := of_decide_eq_false h1
      have hkV : V.take k = V := List.take_of_length_le (by omega)
      have hll : L.length ≤ 5 := by
        rw [hL, hkV]; exact Nat.le_trans soFar_len (by omega)
      rw [hkV] at hL hb
      have hend := @soFar_end _ Vip.id v V
      rw [← hL, ← hb] at hend
      conv => whnf
      refine Fork.intro (fun h2 => ?_) (fun h2 => ?_)
      · conv => whnf
        replace h2 : b = false := by simpa using h2
        (refine ⟨Nat.le_of_ble_eq_true rfl, ?_⟩; conv => whnf)
        refine ⟨Vip, vipD, L ++ [v], (by rw [List.map_append]; rfl), fun _ => rfl, by simp only [List.length_append, List.length_cons, List.length_nil]; omega, by simp only [List.length_append, List.length_cons, List.length_nil]; omega, rfl, ?_⟩
        conv => whnf
        rw [hend, h2]
        rfl
      · conv => whnf
        replace h2 : b = true := by simpa using h2
        rw [hend, h2]
        rfl

/-- How a new one begins. -/
abbrev fresh (b : Back) : Back := ⟨b.id, b.vip, b.addr, b.weight, 1, false⟩
def addB (V : List Vip) (B : List Back) (b : Back) : List Back × Int := match goodB (fresh b) with
  | false => (B, 2)
  | true => match decide (findI (fun u => decide (u.id = b.vip)) V < 0) with
    | true => (B, 8)
    | false => match decide (findI (fun u => decide (u.id = b.id)) B ≥ 0) with
      | true => (B, 9)
      | false => match decide ((B.length : Int) = 16) with
        | true => (B, 7)
        | false => (insBy Back.id (fresh b) B, 0)

theorem addBackend_fn (V : List Vip) (B : List Back) (b0 : Back) (hv : b0.ok) (hV : V.length ≤ 4) (hB : B.length ≤ 16) : Fn Try.prog 68 [farmD V B, .agg (backD b0)] fun d => d = .tup [farmD V (addB V B b0).1, intD (addB V B b0).2] := by
  refine fnOf [] Try.func68 rfl (by kernel_rfl) (Nat.le_of_ble_eq_true rfl) ?_
  conv => whnf
  refine CallVC.pure (goodBackend_fn (fresh b0) ⟨hv.id, hv.addr⟩) rfl ?_
  rintro _ rfl
  conv => whnf
  refine Fork.intro (fun h1 => ?_) (fun h1 => ?_)
  · conv => whnf
    simp only [Bool.not_eq_true'] at h1
    simp only [addB, h1]
    rfl
  simp only [Bool.not_eq_false'] at h1
  conv => whnf
  refine CallVC.pure (vipAt_fn V B b0.vip (by omega)) rfl ?_
  rintro _ rfl
  conv => whnf
  refine Fork.intro (fun h2 => ?_) (fun h2 => ?_)
  · conv => whnf
    simp only [addB, h1, h2]
    rfl
  conv => whnf
  refine CallVC.pure (backAt_fn V B b0.id (by omega)) rfl ?_
  rintro _ rfl
  conv => whnf
  refine Fork.intro (fun h3 => ?_) (fun h3 => ?_)
  · conv => whnf
    simp only [addB, h1, ge_iff_le, h2, h3]
    rfl
  conv => whnf
  refine Fork.intro (fun h4 => ?_) (fun h4 => ?_)
  · conv => whnf
    simp only [addB, h1, ge_iff_le, h2, h3, h4]
    rfl
  have hres : addB V B b0 = (insBy Back.id (fresh b0) B, 0) := by simp only [addB, h1, ge_iff_le, h2, h3, h4]
  rw [hres]
  have hlen : B.length < 16 := by
    have := of_decide_eq_false h4
    omega
  clear h1 h2 h3 h4 hres
  conv => whnf
  refine ⟨Nat × Bool × List Back, fun p => ⟨[(8, intD p.1), (7, boolD p.2.1), (6, .loc 3 0), (5, intD 0), (4, .loc 2 0), (3, .loc 1 0), (2, .loc 0 0)], [(0, .cells 29 [rowsV V, rowsB B]), (1, .cells 50 (backD (fresh b0))), (2, .cells 29 [.v (.slice none 0 0), .v (.slice none 0 0)]), (3, .cells 29 [rowsV V, .grow 4]), (4, .grow Back 50 6 backD p.2.2)], 5, ([], 0)⟩,
    fun p => p.1 ≤ B.length ∧ p.2.1 = anyOver Back.id (fresh b0) (B.take p.1) ∧ p.2.2 = insSoFar Back.id (fresh b0) (B.take p.1), fun p => B.length - p.1, ⟨(0, false, []), [], [4], ?_, Nat.zero_le _, rfl, rfl⟩, ?_⟩
  · repeat' (first | exact trivial | exact .inl (DLe.refl _) | exact .inl (DLe.nil _ _) | (refine .inr ⟨rfl, _, ?_, rfl⟩; rfl) | exact rfl | exact Nat.zero_le _ | constructor)
  · rintro ⟨k, b, L⟩ ⟨hk, hb, hL⟩
    dsimp only at hk hb hL
    conv => whnf
    refine Fork.intro (fun h1 => ?_) (fun h1 => ?_)
    · have hlt : (k : Int) < B.length := of_decide_eq_true h1
      have hll : L.length ≤ k + 1 := by rw [hL]; exact Nat.le_trans soFar_len (by simp; omega)
      conv => whnf
      refine Fork.intro (fun h2 => ?_) (fun h2 => ?_)
      · conv => whnf
        replace h2 : b = false := by simpa using h2
        refine ⟨rfl, ⟨by show (0 : Int) ≤ k; omega, hlt⟩, fun x hx => ?_⟩
        have hxk : B[k]? = some x := by simpa using hx
        conv => whnf
        refine Fork.intro (fun h3 => ?_) (fun h3 => ?_)
        · conv => whnf
          (refine ⟨Nat.le_of_ble_eq_true rfl, ?_⟩; conv => whnf)
          refine ⟨Back, backD, L ++ [fresh b0], (by rw [List.map_append]; rfl), fun _ => rfl, by simp only [List.length_append, List.length_cons, List.length_nil]; omega, by simp only [List.length_append, List.length_cons, List.length_nil]; omega, rfl, ?_⟩
          conv => whnf
          refine ⟨rfl, ⟨by show (0 : Int) ≤ k; omega, hlt⟩, fun x' hx' => ?_⟩
          obtain rfl : x = x' := by simpa using hx.symm.trans hx'
          conv => whnf
          (refine ⟨Nat.le_of_ble_eq_true rfl, ?_⟩; conv => whnf)
          refine ⟨Back, backD, (L ++ [fresh b0]) ++ [x], (by rw [List.map_append]; rfl), fun _ => rfl, by simp only [List.length_append, List.length_cons, List.length_nil]; omega, by simp only [List.length_append, List.length_cons, List.length_nil]; omega, rfl, ?_⟩
          conv => whnf
          rw [wrap_next (show k < B.length by omega) (by omega)]
          refine ⟨(k + 1, true, (L ++ [fresh b0]) ++ [x]), [(4, 6)], [], ?_, ⟨by show k + 1 ≤ _; omega, ?_, ?_⟩, by show B.length - (k + 1) < B.length - k; omega⟩
          · repeat' (first | exact trivial | exact .inl (DLe.refl _) | exact .inl (DLe.nil _ _) | (refine .inr ⟨rfl, _, ?_, rfl⟩; rfl) | exact rfl | exact Nat.zero_le _ | constructor)
          · show _ = anyOver Back.id (fresh b0) (B.take (k + 1))
            rw [take_snoc hxk, any_snoc, ← hb, h3, Bool.or_true]
          · show _ = insSoFar Back.id (fresh b0) (B.take (k + 1))
            rw [take_snoc hxk, soFar_here (hb.symm.trans h2) h3, ← hL]
        · conv => whnf
          refine ⟨rfl, ⟨by show (0 : Int) ≤ k; omega, hlt⟩, fun x' hx' => ?_⟩
          obtain rfl : x = x' := by simpa using hx.symm.trans hx'
          conv => whnf
          (refine ⟨Nat.le_of_ble_eq_true rfl, ?_⟩; conv => whnf)
          refine ⟨Back, backD, L ++ [x], (by rw [List.map_append]; rfl), fun _ => rfl, by simp only [List.length_append, List.length_cons, List.length_nil]; omega, by simp only [List.length_append, List.length_cons, List.length_nil]; omega, rfl, ?_⟩
          conv => whnf
          rw [wrap_next (show k < B.length by omega) (by omega)]
          refine ⟨(k + 1, b, L ++ [x]), [(4, 5)], [], ?_, ⟨by show k + 1 ≤ _; omega, ?_, ?_⟩, by show B.length - (k + 1) < B.length - k; omega⟩
          · repeat' (first | exact trivial | exact .inl (DLe.refl _) | exact .inl (DLe.nil _ _) | (refine .inr ⟨rfl, _, ?_, rfl⟩; rfl) | exact rfl | exact Nat.zero_le _ | constructor)
          · show _ = anyOver Back.id (fresh b0) (B.take (k + 1))
            rw [take_snoc hxk, any_snoc, ← hb, h3, Bool.or_false]
          · show _ = insSoFar Back.id (fresh b0) (B.take (k + 1))
            rw [take_snoc hxk, soFar_not (hb.symm.trans h2) h3, ← hL]
      · conv => whnf
        replace h2 : b = true := by simpa using h2
        refine ⟨rfl, ⟨by show (0 : Int) ≤ k; omega, hlt⟩, fun x hx => ?_⟩
        have hxk : B[k]? = some x := by simpa using hx
        conv => whnf
        (refine ⟨Nat.le_of_ble_eq_true rfl, ?_⟩; conv => whnf)
        refine ⟨Back, backD, L ++ [x], (by rw [List.map_append]; rfl), fun _ => rfl, by simp only [List.length_append, List.length_cons, List.length_nil]; omega, by simp only [List.length_append, List.length_cons, List.length_nil]; omega, rfl, ?_⟩
        conv => whnf
        rw [wrap_next (show k < B.length by omega) (by omega)]
        refine ⟨(k + 1, b, L ++ [x]), [(4, 5)], [], ?_, ⟨by show k + 1 ≤ _; omega, ?_, ?_⟩, by show B.length - (k + 1) < B.length - k; omega⟩
        · repeat' (first | exact trivial | exact .inl (DLe.refl _) | exact .inl (DLe.nil _ _) | (refine .inr ⟨rfl, _, ?_, rfl⟩; rfl) | exact rfl | exact Nat.zero_le _ | constructor)
        · show _ = anyOver Back.id (fresh b0) (B.take (k + 1))
          rw [take_snoc hxk, any_snoc, ← hb, h2, Bool.true_or]
        · show _ = insSoFar Back.id (fresh b0) (B.take (k + 1))
          rw [take_snoc hxk, soFar_in (hb.symm.trans h2), ← hL]
    · have hge : ¬ (k : Int) < B.length := of_decide_eq_false h1
      have hkV : B.take k = B := List.take_of_length_le (by omega)
      have hll : L.length ≤ 17 := by
        rw [hL, hkV]; exact Nat.le_trans soFar_len (by omega)
      rw [hkV] at hL hb
      have hend := @soFar_end _ Back.id (fresh b0) B
      rw [← hL, ← hb] at hend
      conv => whnf
      refine Fork.intro (fun h2 => ?_) (fun h2 => ?_)
      · conv => whnf
        replace h2 : b = false := by simpa using h2
        (refine ⟨Nat.le_of_ble_eq_true rfl, ?_⟩; conv => whnf)
        refine ⟨Back, backD, L ++ [fresh b0], (by rw [List.map_append]; rfl), fun _ => rfl, by simp only [List.length_append, List.length_cons, List.length_nil]; omega, by simp only [List.length_append, List.length_cons, List.length_nil]; omega, rfl, ?_⟩
        conv => whnf
        rw [hend, h2]
        rfl
      · conv => whnf
        replace h2 : b = true := by simpa using h2
        rw [hend, h2]
        rfl

def with1 (b : Back) (no : Bool) (x : Back) : List Back := match !decide (x.id = b.id) with
  | true => [x]
  | false => match !no with
    | true => [b]
    | false => []
def withB (B : List Back) (b : Back) (no : Bool) : List Back := B.flatMap (with1 b no)
theorem withB_snoc (L : List Back) (b : Back) (no : Bool) (x : Back) : withB (L ++ [x]) b no = withB L b no ++ with1 b no x := by simp [withB]
theorem withB_len (b : Back) (no : Bool) : ∀ L : List Back, (withB L b no).length ≤ L.length
  | [] => Nat.le_refl _
  | x :: r => by
    have h := withB_len b no r
    have h1 : (with1 b no x).length ≤ 1 := by
      unfold with1
      split
      · exact Nat.le_refl _
      · split
        · exact Nat.le_refl _
        · exact Nat.zero_le _
    simp only [withB, List.flatMap_cons, List.length_append, List.length_cons] at *
    omega

theorem with_fn (V : List Vip) (B : List Back) (b : Back) (no : Bool) (hB : B.length ≤ 16) : Fn Try.prog 91 [farmD V B, .agg (backD b), boolD no] fun d => d = farmD V (withB B b no) := by
  refine fnOf [] Try.func91 rfl (by kernel_rfl) (Nat.le_of_ble_eq_true rfl) ?_
  conv => whnf
  refine ⟨Nat × List Back, fun p => ⟨[(8, intD p.1), (7, .loc 3 0), (6, .loc 2 0), (4, .loc 1 0), (3, .loc 0 0), (2, boolD no)], [(0, .cells 29 [rowsV V, rowsB B]), (1, .cells 50 (backD b)), (2, .cells 29 [.v (.slice none 0 0), .v (.slice none 0 0)]), (3, .cells 29 [rowsV V, .grow 4]), (4, .grow Back 50 6 backD p.2)], 5, ([], 0)⟩,
    fun p => p.1 ≤ B.length ∧ p.2 = withB (B.take p.1) b no, fun p => B.length - p.1, ⟨(0, []), [], [4], ?_, Nat.zero_le _, rfl⟩, ?_⟩
  · repeat' (first | exact trivial | exact .inl (DLe.refl _) | exact .inl (DLe.nil _ _) | (refine .inr ⟨rfl, _, ?_, rfl⟩; rfl) | exact rfl | exact Nat.zero_le _ | constructor)
  · rintro ⟨k, L⟩ ⟨hk, hL⟩
    dsimp only at hk hL
    conv => whnf
    refine Fork.intro (fun h1 => ?_) (fun h1 => ?_)
    · have hlt : (k : Int) < B.length := of_decide_eq_true h1
      have hll : L.length ≤ k := by rw [hL]; exact Nat.le_trans (withB_len _ _ _) (by simp; omega)
      conv => whnf
      refine ⟨rfl, ⟨by show (0 : Int) ≤ k; omega, hlt⟩, fun x hx => ?_⟩
      have hxk : B[k]? = some x := by simpa using hx
      have hn : withB (B.take (k + 1)) b no = L ++ with1 b no x := by rw [take_snoc hxk, withB_snoc, ← hL]
      conv => whnf
      refine Fork.intro (fun h2 => ?_) (fun h2 => ?_)
      · conv => whnf
        refine ⟨rfl, ⟨by show (0 : Int) ≤ k; omega, hlt⟩, fun x' hx' => ?_⟩
        obtain rfl : x = x' := by simpa using hx.symm.trans hx'
        conv => whnf
        (refine ⟨Nat.le_of_ble_eq_true rfl, ?_⟩; conv => whnf)
        refine ⟨Back, backD, L ++ [x], (by rw [List.map_append]; rfl), fun _ => rfl, by simp only [List.length_append, List.length_cons, List.length_nil]; omega, by simp only [List.length_append, List.length_cons, List.length_nil]; omega, rfl, ?_⟩
        conv => whnf
        rw [wrap_next (show k < B.length by omega) (by omega)]
        refine ⟨(k + 1, L ++ [x]), [(4, 5)], [], ?_, ⟨by show k + 1 ≤ _; omega, ?_⟩, by show B.length - (k + 1) < B.length - k; omega⟩
        · repeat' (first | exact trivial | exact .inl (DLe.refl _) | exact .inl (DLe.nil _ _) | (refine .inr ⟨rfl, _, ?_, rfl⟩; rfl) | exact rfl | exact Nat.zero_le _ | constructor)
        · rw [hn]; simp only [with1, h2]
      · conv => whnf
        refine Fork.intro (fun h3 => ?_) (fun h3 => ?_)
        · conv => whnf
          (refine ⟨Nat.le_of_ble_eq_true rfl, ?_⟩; conv => whnf)
          refine ⟨Back, backD, L ++ [b], (by rw [List.map_append]; rfl), fun _ => rfl, by simp only [List.length_append, List.length_cons, List.length_nil]; omega, by simp only [List.length_append, List.length_cons, List.length_nil]; omega, rfl, ?_⟩
          conv => whnf
          rw [wrap_next (show k < B.length by omega) (by omega)]
          refine ⟨(k + 1, L ++ [b]), [(4, 5)], [], ?_, ⟨by show k + 1 ≤ _; omega, ?_⟩, by show B.length - (k + 1) < B.length - k; omega⟩
          · repeat' (first | exact trivial | exact .inl (DLe.refl _) | exact .inl (DLe.nil _ _) | (refine .inr ⟨rfl, _, ?_, rfl⟩; rfl) | exact rfl | exact Nat.zero_le _ | constructor)
          · rw [hn]; simp only [with1, h2, h3]
        · conv => whnf
          rw [wrap_next (show k < B.length by omega) (by omega)]
          refine ⟨(k + 1, L), [], [], ?_, ⟨by show k + 1 ≤ _; omega, ?_⟩, by show B.length - (k + 1) < B.length - k; omega⟩
          · repeat' (first | exact trivial | exact .inl (DLe.refl _) | exact .inl (DLe.nil _ _) | (refine .inr ⟨rfl, _, ?_, rfl⟩; rfl) | exact rfl | exact Nat.zero_le _ | constructor)
          · rw [hn]; simp only [with1, h2, h3, List.append_nil]
    · have hge : ¬ (k : Int) < B.length := of_decide_eq_false h1
      have hkB : B.take k = B := List.take_of_length_le (by omega)
      rw [hkB] at hL
      conv => whnf
      rw [← hL]
      rfl

theorem with_raw (V : List Vip) (B : List Back) {i p a w l : Int} {u no : Bool} (hB : B.length ≤ 16) : Fn Try.prog 91 [farmD V B, .agg [.v (.int .i64 i), .v (.int .i64 p), .v (.int .u32 a), .v (.int .i64 w), .v (.int .i64 l), .v (.bool u)], boolD no] fun d => d = farmD V (withB B ⟨i, p, a, w, l, u⟩ no) := with_fn V B ⟨i, p, a, w, l, u⟩ no hB

theorem findI_lt {α : Type} {p : α → Bool} {L : List α} (h : decide (findI p L < 0) = false) : 0 ≤ findI p L ∧ findI p L < L.length := by
  have h := of_decide_eq_false h
  refine ⟨by omega, ?_⟩
  unfold findI at *
  split
  · rename_i i hi
    have := (List.findIdx?_eq_some_iff_getElem.1 hi).1
    omega
  · rename_i hi
    rw [hi] at h
    exact absurd (by decide) h

/-- What an order does to a backend. -/
def chg (kind w : Int) (b : Back) : Back := ⟨b.id, b.vip, b.addr, (match decide (kind = 2) with
  | true => w
  | false => b.weight), (match decide (kind = 1) with
  | true => 2
  | false => b.life), (match decide (2 < kind) with
  | true => decide (kind = 3)
  | false => b.up)⟩
def changeB (B : List Back) (kind id w : Int) : List Back × Int := match decide (kind = 2) && (decide (w < 1) || decide (8 < w)) with
  | true => (B, 2)
  | false => match decide (findI (fun u => decide (u.id = id)) B < 0) with
    | true => (B, 8)
    | false => match B[(findI (fun u => decide (u.id = id)) B).toNat]? with
      | none => (B, 8)
      | some b => (withB B (chg kind w b) (decide (kind = 0)), 0)

theorem tupEq {V : List Vip} {B B' : List Back} {n n' : Int} (h : (B, n) = (B', n')) : D.tup [farmD V B, intD n] = D.tup [farmD V B', intD n'] := by
  injection h with h1 h2
  rw [h1, h2]

theorem change_fn (V : List Vip) (B : List Back) (kind id w : Int) (hB : B.length ≤ 16) : Fn Try.prog 69 [farmD V B, intD kind, intD id, intD w] fun d => d = .tup [farmD V (changeB B kind id w).1, intD (changeB B kind id w).2] := by
  refine fnOf [] Try.func69 rfl (by kernel_rfl) (Nat.le_of_ble_eq_true rfl) ?_
  conv => whnf
  repeat' (first
    | (refine Fork.intro (fun _ => ?_) (fun _ => ?_) <;> conv => whnf)
    | (refine CallVC.pure (backAt_fn V B id (by omega)) rfl ?_; rintro _ rfl; conv => whnf)
    | (rename_i hneg; refine ⟨rfl, findI_lt hneg, fun x hx => ?_⟩; conv => whnf)
    | (refine CallVC.pure (with_raw V B hB) rfl ?_; rintro _ rfl; conv => whnf))
  all_goals (refine tupEq ?_; simp only [changeB, chg])
  all_goals (simp only [*, Bool.and_true, Bool.true_and, Bool.or_true, Bool.true_or, Bool.or_false, Bool.false_or, Bool.false_and, Bool.and_false])
  all_goals simp_all

def mode1 (K m : Int) (i : Nat) (v : Vip) : Vip := match decide ((i : Int) = K) with
  | true => ⟨v.id, v.addr, v.port, v.proto, m⟩
  | false => v
def modeV (V : List Vip) (id m : Int) : List Vip × Int := match !decide (m = 1) && !decide (m = 2) with
  | true => (V, 2)
  | false => match decide (findI (fun u => decide (u.id = id)) V < 0) with
    | true => (V, 8)
    | false => match V[(findI (fun u => decide (u.id = id)) V).toNat]? with
      | none => (V, 8)
      | some v => match decide (m = 2) && !decide (v.proto = 6) with
        | true => (V, 2)
        | false => (V.mapIdx (mode1 (findI (fun u => decide (u.id = id)) V) m), 0)

theorem tupEqV {B : List Back} {V V' : List Vip} {n n' : Int} (h : (V, n) = (V', n')) : D.tup [farmD V B, intD n] = D.tup [farmD V' B, intD n'] := by
  injection h with h1 h2
  rw [h1, h2]
theorem mode_fn (V : List Vip) (B : List Back) (id m : Int) (hV : V.length ≤ 4) : Fn Try.prog 70 [farmD V B, intD id, intD m] fun d => d = .tup [farmD (modeV V id m).1 B, intD (modeV V id m).2] := by
  refine fnOf [] Try.func70 rfl (by kernel_rfl) (Nat.le_of_ble_eq_true rfl) ?_
  generalize hK : findI (fun u : Vip => decide (u.id = id)) V = K
  have hloop : ∀ v, decide (K < 0) = false → V[K.toNat]? = some v → (!decide (m = 1) && !decide (m = 2)) = false → (decide (m = 2) && !decide (v.proto = 6)) = false → modeV V id m = (V.mapIdx (mode1 K m), 0) := by
    intro v h1 h2 h3 h4
    simp only [modeV, hK, h1, h2, h3, h4]
  have hin : decide (K < 0) = false → 0 ≤ K ∧ K < V.length := fun h => hK ▸ findI_lt (hK ▸ h)
  have hlast : decide (K < 0) = false → ∃ v, V[K.toNat]? = some v := fun h => by
    have := hin h
    exact ⟨_, List.getElem?_eq_getElem (by omega)⟩
  conv => whnf
  repeat' (first
    | (refine Fork.intro (fun _ => ?_) (fun _ => ?_) <;> conv => whnf)
    | (refine CallVC.pure (vipAt_fn V B id (by omega)) rfl ?_; rintro _ rfl; rw [hK]; conv => whnf)
    | (refine ⟨rfl, hin (by assumption), fun x hx => ?_⟩; conv => whnf))
  all_goals first
    | (refine tupEqV ?_; simp only [modeV, *, Bool.not_true, Bool.not_false, Bool.and_true, Bool.true_and, Bool.and_false, Bool.false_and]; done)
    | (have hend : modeV V id m = (V.mapIdx (mode1 K m), 0) := by
         obtain ⟨v, hv⟩ := hlast (by assumption)
         refine hloop v (by assumption) hv ?_ ?_
         · simp_all
         · simp_all
       rw [hend]
       clear hend hlast hin hloop hK
       refine ⟨Nat × List Vip, fun p => ⟨[(10, intD p.1), (9, .loc 2 0), (8, intD K), (7, intD 0), (6, .loc 1 0), (3, .loc 0 0), (2, intD m)], [(0, .cells 29 [rowsV V, rowsB B]), (1, .cells 29 [.v (.slice none 0 0), .v (.slice none 0 0)]), (2, .cells 29 [.grow 3, rowsB B]), (3, .grow Vip 45 5 vipD p.2)], 4, ([], 0)⟩,
         fun p => p.1 ≤ V.length ∧ p.2 = (V.take p.1).mapIdx (mode1 K m), fun p => V.length - p.1, ⟨(0, []), [], [3], ?_, Nat.zero_le _, rfl⟩, ?_⟩
       · repeat' (first | exact trivial | exact .inl (DLe.refl _) | exact .inl (DLe.nil _ _) | (refine .inr ⟨rfl, _, ?_, rfl⟩; rfl) | exact rfl | exact Nat.zero_le _ | constructor)
       · rintro ⟨k, L⟩ ⟨hk, hL⟩
         dsimp only at hk hL
         conv => whnf
         refine Fork.intro (fun h1 => ?_) (fun h1 => ?_)
         · have hlt : (k : Int) < V.length := of_decide_eq_true h1
           have hll : L.length ≤ k := by rw [hL]; simp; omega
           conv => whnf
           refine ⟨rfl, ⟨by show (0 : Int) ≤ k; omega, hlt⟩, fun x hx => ?_⟩
           have hxk : V[k]? = some x := by simpa using hx
           have hn : (V.take (k + 1)).mapIdx (mode1 K m) = L ++ [mode1 K m k x] := by
             rw [take_snoc hxk, List.mapIdx_concat, ← hL, show (V.take k).length = k by rw [List.length_take]; omega]
           conv => whnf
           refine Fork.intro (fun h2 => ?_) (fun h2 => ?_)
           all_goals
             conv => whnf
             (refine ⟨Nat.le_of_ble_eq_true rfl, ?_⟩; conv => whnf)
             refine ⟨Vip, vipD, L ++ [mode1 K m k x], (by rw [List.map_append]; simp only [mode1, h2]; rfl), fun _ => rfl, by simp only [List.length_append, List.length_cons, List.length_nil]; omega, by simp only [List.length_append, List.length_cons, List.length_nil]; omega, rfl, ?_⟩
             conv => whnf
             rw [wrap_next (show k < V.length by omega) (by omega)]
             refine ⟨(k + 1, L ++ [mode1 K m k x]), [(3, 5)], [], ?_, ⟨by show k + 1 ≤ _; omega, hn.symm⟩, by show V.length - (k + 1) < V.length - k; omega⟩
             repeat' (first | exact trivial | exact .inl (DLe.refl _) | exact .inl (DLe.nil _ _) | (refine .inr ⟨rfl, _, ?_, rfl⟩; rfl) | exact rfl | exact Nat.zero_le _ | constructor)
         · have hge : ¬ (k : Int) < V.length := of_decide_eq_false h1
           have hkV : V.take k = V := List.take_of_length_le (by omega)
           rw [hkV] at hL
           conv => whnf
           rw [← hL]
           rfl)

def fit1 (vip : Int) (b : Back) : Bool := (decide (b.vip = vip) && decide (b.life = 1)) && b.up
theorem fit_fn (V : List Vip) (B : List Back) (vip : Int) (hB : B.length ≤ 16) : Fn Try.prog 30 [farmD V B, intD vip] fun d => DLe d (rowsB (B.filter (fit1 vip))) := by
  refine fnOf [] Try.func30 rfl (by kernel_rfl) (Nat.le_of_ble_eq_true rfl) ?_
  conv => whnf
  refine ⟨Nat × List Back, fun p => ⟨[(6, intD p.1), (5, .grow 1), (2, .loc 0 0), (1, intD vip)], [(0, .cells 29 [rowsV V, rowsB B]), (1, .grow Back 50 6 backD p.2)], 2, ([], 0)⟩,
    fun p => p.1 ≤ B.length ∧ p.2 = (B.take p.1).filter (fit1 vip), fun p => B.length - p.1, ⟨(0, []), [], [1], ?_, Nat.zero_le _, rfl⟩, ?_⟩
  · repeat' (first | exact trivial | exact .inl (DLe.refl _) | exact .inl (DLe.nil _ _) | (refine .inr ⟨rfl, _, ?_, rfl⟩; rfl) | exact rfl | exact Nat.zero_le _ | constructor)
  · rintro ⟨k, L⟩ ⟨hk, hL⟩
    dsimp only at hk hL
    conv => whnf
    refine Fork.intro (fun h1 => ?_) (fun h1 => ?_)
    · have hlt : (k : Int) < B.length := of_decide_eq_true h1
      have hll : L.length ≤ k := by rw [hL]; exact Nat.le_trans (List.length_filter_le _ _) (by simp; omega)
      conv => whnf
      refine ⟨rfl, ⟨by show (0 : Int) ≤ k; omega, hlt⟩, fun x hx => ?_⟩
      have hxk : B[k]? = some x := by simpa using hx
      have hn : (B.take (k + 1)).filter (fit1 vip) = L ++ [x].filter (fit1 vip) := by
        rw [take_snoc hxk, List.filter_append, ← hL]
      conv => whnf
      repeat' (refine Fork.intro (fun _ => ?_) (fun _ => ?_) <;> conv => whnf)
      all_goals first
        | ((refine ⟨Nat.le_of_ble_eq_true rfl, ?_⟩; conv => whnf)
           refine ⟨Back, backD, L ++ [x], (by rw [List.map_append]; rfl), fun _ => rfl, by simp only [List.length_append, List.length_cons, List.length_nil]; omega, by simp only [List.length_append, List.length_cons, List.length_nil]; omega, rfl, ?_⟩
           conv => whnf
           rw [wrap_next (show k < B.length by omega) (by omega)]
           refine ⟨(k + 1, L ++ [x]), [(1, 3)], [], ?_, ⟨by show k + 1 ≤ _; omega, ?_⟩, by show B.length - (k + 1) < B.length - k; omega⟩
           · repeat' (first | exact trivial | exact .inl (DLe.refl _) | exact .inl (DLe.nil _ _) | (refine .inr ⟨rfl, _, ?_, rfl⟩; rfl) | exact rfl | exact Nat.zero_le _ | constructor)
           · rw [hn]; simp_all [fit1])
        | (rw [wrap_next (show k < B.length by omega) (by omega)]
           refine ⟨(k + 1, L), [], [], ?_, ⟨by show k + 1 ≤ _; omega, ?_⟩, by show B.length - (k + 1) < B.length - k; omega⟩
           · repeat' (first | exact trivial | exact .inl (DLe.refl _) | exact .inl (DLe.nil _ _) | (refine .inr ⟨rfl, _, ?_, rfl⟩; rfl) | exact rfl | exact Nat.zero_le _ | constructor)
           · rw [hn]; simp_all [fit1])
    · have hge : ¬ (k : Int) < B.length := of_decide_eq_false h1
      have hkB : B.take k = B := List.take_of_length_le (by omega)
      rw [hkB] at hL
      conv => whnf
      rw [← hL]
      exact DLe.refl _
end Go.Proofs.Ytghfefkmmobmgaa.V
