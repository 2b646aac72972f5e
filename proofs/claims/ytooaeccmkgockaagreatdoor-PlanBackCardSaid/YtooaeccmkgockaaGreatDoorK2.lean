/-
  Farms as data; the reference's looking and its checks. Condition: numbers are of their types.
  Farms: the reference's orders. Conditions: numbers are of their types; a farm is short.
  Farms: deeds by the document, one behind the other. Conditions: numbers are of their types.
  Farms: the program's looking. Conditions: short rows.
  Farms: the backends that new flows may find, by the program. Conditions: short rows.
-/
import Derived.Test.YtooaeccmkgockaaGreatDoorK1
import Derived.Test.YtooaeccmkgockaaGreatDoorTtK
import Derived.IntWalk
namespace Go.Proofs.YtooaeccmkgockaaGreatDoor.V
open Go.RowKit

structure Vip where
  id : Int
  addr : Int
  port : Int
  proto : Int
  mode : Int
structure Back where
  id : Int
  vip : Int
  addr : Int
  weight : Int
  life : Int
  up : Bool
def vipD (v : Vip) : List D := [.v (.int .i64 v.id), .v (.int .u32 v.addr), .v (.int .u16 v.port), .v (.int .u8 v.proto), .v (.int .i64 v.mode)]
def backD (b : Back) : List D := [.v (.int .i64 b.id), .v (.int .i64 b.vip), .v (.int .u32 b.addr), .v (.int .i64 b.weight), .v (.int .i64 b.life), .v (.bool b.up)]
abbrev rowsV (V : List Vip) : D := .rows Vip 5 vipD V
abbrev rowsB (B : List Back) : D := .rows Back 6 backD B
abbrev farmD (V : List Vip) (B : List Back) : D := .agg [rowsV V, rowsB B]
structure Vip.ok (v : Vip) : Prop where
  id : -9223372036854775808 ≤ v.id ∧ v.id ≤ 9223372036854775807
  addr : 0 ≤ v.addr ∧ v.addr ≤ 4294967295
  port : 0 ≤ v.port ∧ v.port ≤ 65535
  proto : 0 ≤ v.proto ∧ v.proto ≤ 255
  mode : -9223372036854775808 ≤ v.mode ∧ v.mode ≤ 9223372036854775807
structure Back.ok (b : Back) : Prop where
  id : -9223372036854775808 ≤ b.id ∧ b.id ≤ 9223372036854775807
  addr : 0 ≤ b.addr ∧ b.addr ≤ 4294967295

theorem vipAt_fn (V : List Vip) (B : List Back) (id : Int) (hV : V.length ≤ 1000000) : Fn Tryz.prog 75 [farmD V B, intD id] fun d => d = intD (findI (fun v => decide (v.id = id)) V) := by
  refine fnOf [] Tryz.func75 rfl (by kernel_rfl) (Nat.le_of_ble_eq_true rfl) ?_
  conv => whnf
  refine ⟨Nat, fun k => ⟨[(5, intD k), (2, .loc 0 0), (1, intD id)], [(0, .cells 45 [rowsV V, rowsB B])], 1, ([], 0)⟩,
    fun k => k ≤ V.length ∧ ∀ (j : Nat) u, j < k → V[j]? = some u → decide (u.id = id) = false, fun k => V.length - k, ⟨0, [], [], ?_, Nat.zero_le _, fun j u h => by omega⟩, ?_⟩
  · repeat' (first | exact trivial | exact .inl (DLe.refl _) | exact .inl (DLe.nil _ _) | (refine .inr ⟨rfl, _, ?_, rfl⟩; rfl) | exact rfl | exact Nat.zero_le _ | constructor)
  · rintro k ⟨hk, hno⟩
    conv => whnf
    refine Fork.intro (fun hfk => ?_) (fun hfk => ?_)
    · have hlt : (k : Int) < V.length := of_decide_eq_true hfk
      conv => whnf
      refine ⟨rfl, ⟨by omega, by omega⟩, fun x hx => ?_⟩
      rw [nat_toNat] at hx
      conv => whnf
      refine Fork.intro (fun hfk => ?_) (fun hfk => ?_)
      · conv => whnf
        rw [findI_at hx hfk hno]
      · conv => whnf
        rw [wrap_next (show k < V.length by omega) hV]
        refine ⟨k + 1, [], [], ?_, ⟨by show k + 1 ≤ _; omega, no_next hx hfk hno⟩, by show V.length - (k + 1) < V.length - k; omega⟩
        repeat' (first | exact trivial | exact .inl (DLe.refl _) | exact .inl (DLe.nil _ _) | (refine .inr ⟨rfl, _, ?_, rfl⟩; rfl) | exact rfl | exact Nat.zero_le _ | constructor)
    · have hge : ¬ (k : Int) < V.length := of_decide_eq_false hfk
      conv => whnf
      rw [findI_none (fun j u hj hu => hno j u (by omega) hu)]

theorem backAt_fn (V : List Vip) (B : List Back) (id : Int) (hB : B.length ≤ 1000000) : Fn Tryz.prog 87 [farmD V B, intD id] fun d => d = intD (findI (fun b => decide (b.id = id)) B) := by
  refine fnOf [] Tryz.func87 rfl (by kernel_rfl) (Nat.le_of_ble_eq_true rfl) ?_
  conv => whnf
  refine ⟨Nat, fun k => ⟨[(5, intD k), (2, .loc 0 0), (1, intD id)], [(0, .cells 45 [rowsV V, rowsB B])], 1, ([], 0)⟩,
    fun k => k ≤ B.length ∧ ∀ (j : Nat) u, j < k → B[j]? = some u → decide (u.id = id) = false, fun k => B.length - k, ⟨0, [], [], ?_, Nat.zero_le _, fun j u h => by omega⟩, ?_⟩
  · repeat' (first | exact trivial | exact .inl (DLe.refl _) | exact .inl (DLe.nil _ _) | (refine .inr ⟨rfl, _, ?_, rfl⟩; rfl) | exact rfl | exact Nat.zero_le _ | constructor)
  · rintro k ⟨hk, hno⟩
    conv => whnf
    refine Fork.intro (fun hfk => ?_) (fun hfk => ?_)
    · have hlt : (k : Int) < B.length := of_decide_eq_true hfk
      conv => whnf
      refine ⟨rfl, ⟨by omega, by omega⟩, fun x hx => ?_⟩
      rw [nat_toNat] at hx
      conv => whnf
      refine Fork.intro (fun hfk => ?_) (fun hfk => ?_)
      · conv => whnf
        rw [findI_at hx hfk hno]
      · conv => whnf
        rw [wrap_next (show k < B.length by omega) hB]
        refine ⟨k + 1, [], [], ?_, ⟨by show k + 1 ≤ _; omega, no_next hx hfk hno⟩, by show B.length - (k + 1) < B.length - k; omega⟩
        repeat' (first | exact trivial | exact .inl (DLe.refl _) | exact .inl (DLe.nil _ _) | (refine .inr ⟨rfl, _, ?_, rfl⟩; rfl) | exact rfl | exact Nat.zero_le _ | constructor)
    · have hge : ¬ (k : Int) < B.length := of_decide_eq_false hfk
      conv => whnf
      rw [findI_none (fun j u hj hu => hno j u (by omega) hu)]

def sameAt (a p t : Int) (v : Vip) : Bool := decide (v.addr = a) && (decide (v.port = p) && decide (v.proto = t))

theorem where_fn (V : List Vip) (B : List Back) (a p t : Int) (hV : V.length ≤ 1000000) : Fn Tryz.prog 73 [farmD V B, .v (.int .u32 a), .v (.int .u16 p), .v (.int .u8 t)] fun d => d = intD (findI (sameAt a p t) V) := by
  refine fnOf [] Tryz.func73 rfl (by kernel_rfl) (Nat.le_of_ble_eq_true rfl) ?_
  conv => whnf
  refine ⟨Nat, fun k => ⟨[(9, intD k), (4, .loc 0 0), (1, .v (.int .u32 a)), (2, .v (.int .u16 p)), (3, .v (.int .u8 t))], [(0, .cells 45 [rowsV V, rowsB B])], 1, ([], 0)⟩,
    fun k => k ≤ V.length ∧ ∀ (j : Nat) u, j < k → V[j]? = some u → sameAt a p t u = false, fun k => V.length - k, ⟨0, [], [], ?_, Nat.zero_le _, fun j u h => by omega⟩, ?_⟩
  · repeat' (first | exact trivial | exact .inl (DLe.refl _) | exact .inl (DLe.nil _ _) | (refine .inr ⟨rfl, _, ?_, rfl⟩; rfl) | exact rfl | exact Nat.zero_le _ | constructor)
  · rintro k ⟨hk, hno⟩
    conv => whnf
    refine Fork.intro (fun hfk => ?_) (fun hfk => ?_)
    · have hlt : (k : Int) < V.length := of_decide_eq_true hfk
      conv => whnf
      refine ⟨rfl, ⟨by omega, by omega⟩, fun x hx => ?_⟩
      rw [nat_toNat] at hx
      have step : sameAt a p t x = false → ∀ (j : Nat) u, j < k + 1 → V[j]? = some u → sameAt a p t u = false := fun h => no_next hx h hno
      have hxx := hx
      conv => whnf
      refine Fork.intro (fun h1 => ?_) (fun h1 => ?_)
      · conv => whnf
        refine ⟨rfl, ⟨by omega, by omega⟩, fun x' hx' => ?_⟩
        rw [nat_toNat, hx] at hx'
        injection hx' with hx'; subst hx'
        conv => whnf
        refine Fork.intro (fun h2 => ?_) (fun h2 => ?_)
        · conv => whnf
          refine ⟨rfl, ⟨by omega, by omega⟩, fun x' hx' => ?_⟩
          rw [nat_toNat, hx] at hx'
          injection hx' with hx'; subst hx'
          conv => whnf
          refine Fork.intro (fun h3 => ?_) (fun h3 => ?_)
          · conv => whnf
            rw [findI_at hx (by simp only [sameAt, h1, h2, h3, Bool.and_self]) hno]
          · conv => whnf
            rw [wrap_next (show k < V.length by omega) hV]
            refine ⟨k + 1, [], [], ?_, ⟨by show k + 1 ≤ _; omega, step (by simp only [sameAt, h3, Bool.and_false])⟩, by show V.length - (k + 1) < V.length - k; omega⟩
            repeat' (first | exact trivial | exact .inl (DLe.refl _) | exact .inl (DLe.nil _ _) | (refine .inr ⟨rfl, _, ?_, rfl⟩; rfl) | exact rfl | exact Nat.zero_le _ | constructor)
        · conv => whnf
          rw [wrap_next (show k < V.length by omega) hV]
          refine ⟨k + 1, [], [], ?_, ⟨by show k + 1 ≤ _; omega, step (by simp only [sameAt, h2, Bool.false_and, Bool.and_false])⟩, by show V.length - (k + 1) < V.length - k; omega⟩
          repeat' (first | exact trivial | exact .inl (DLe.refl _) | exact .inl (DLe.nil _ _) | (refine .inr ⟨rfl, _, ?_, rfl⟩; rfl) | exact rfl | exact Nat.zero_le _ | constructor)
      · conv => whnf
        rw [wrap_next (show k < V.length by omega) hV]
        refine ⟨k + 1, [], [], ?_, ⟨by show k + 1 ≤ _; omega, step (by simp only [sameAt, h1, Bool.false_and])⟩, by show V.length - (k + 1) < V.length - k; omega⟩
        repeat' (first | exact trivial | exact .inl (DLe.refl _) | exact .inl (DLe.nil _ _) | (refine .inr ⟨rfl, _, ?_, rfl⟩; rfl) | exact rfl | exact Nat.zero_le _ | constructor)
    · have hge : ¬ (k : Int) < V.length := of_decide_eq_false hfk
      conv => whnf
      rw [findI_none (fun j u hj hu => hno j u (by omega) hu)]

def specB (a : Int) : Bool := decide (a = 0) || decide (a / 16777216 = 127) || decide (224 ≤ a / 16777216)
theorem u32_in {a : Int} (h0 : 0 ≤ a) (h1 : a ≤ 4294967295) : IntKind.u32.wrap a = a := by
  have : IntKind.u32.wrap a = a % 4294967296 := by simp [IntKind.wrap, IntKind.bits, IntKind.signed]
  rw [this]; omega

theorem rspecial_fn (a : Int) (h0 : 0 ≤ a) (h1 : a ≤ 4294967295) : Fn Tryz.prog 94 [.v (.int .u32 a)] fun d => d = boolD (specB a) := by
  refine fnOf [] Tryz.func94 rfl (by kernel_rfl) (Nat.le_of_ble_eq_true rfl) ?_
  have hq : IntKind.u32.wrap (a.tdiv 16777216) = a / 16777216 := by
    rw [Int.tdiv_eq_ediv_of_nonneg h0, u32_in (by omega) (by omega)]
  conv => whnf
  refine ⟨by omega, ?_⟩
  repeat' (first | (refine Fork.intro (fun _ => ?_) (fun _ => ?_) <;> conv => whnf))
  all_goals
    congr 2
    simp only [hq] at *
    simp_all [specB]
    try omega

def goodV (v : Vip) : Bool := decide (1 ≤ v.id) && decide (v.id ≤ 99) && !specB v.addr && decide (v.port ≠ 0) && ((decide (v.mode = 1) && (decide (v.proto = 6) || decide (v.proto = 17))) || (decide (v.mode = 2) && decide (v.proto = 6)))
def goodB (b : Back) : Bool := decide (1 ≤ b.id) && decide (b.id ≤ 999) && !specB b.addr && decide (1 ≤ b.weight) && decide (b.weight ≤ 8) && decide (1 ≤ b.life) && decide (b.life ≤ 2)

theorem goodVip_fn (v : Vip) (hv : v.ok) : Fn Tryz.prog 72 [.agg (vipD v)] fun d => d = boolD (goodV v) := by
  refine fnOf [] Tryz.func72 rfl (by kernel_rfl) (Nat.le_of_ble_eq_true rfl) ?_
  conv => whnf
  repeat' (first
    | (refine Fork.intro (fun _ => ?_) (fun _ => ?_) <;> conv => whnf)
    | (refine CallVC.pure (rspecial_fn _ hv.addr.1 hv.addr.2) rfl ?_; rintro _ rfl; conv => whnf))
  all_goals
    congr 2
    simp_all [goodV]
    try omega

theorem goodBackend_fn (b : Back) (hb : b.ok) : Fn Tryz.prog 74 [.agg (backD b)] fun d => d = boolD (goodB b) := by
  refine fnOf [] Tryz.func74 rfl (by kernel_rfl) (Nat.le_of_ble_eq_true rfl) ?_
  conv => whnf
  repeat' (first
    | (refine Fork.intro (fun _ => ?_) (fun _ => ?_) <;> conv => whnf)
    | (refine CallVC.pure (rspecial_fn _ hb.addr.1 hb.addr.2) rfl ?_; rintro _ rfl; conv => whnf))
  all_goals
    congr 2
    simp_all [goodB]
    try omega
end Go.Proofs.YtooaeccmkgockaaGreatDoor.V
namespace Go.Proofs.YtooaeccmkgockaaGreatDoor.V
open Go.RowKit
attribute [local irreducible] Fn OpVC

def insBy {α : Type} (key : α → Int) (x : α) : List α → List α
  | [] => [x]
  | y :: r => match decide (key x < key y) with
    | true => x :: y :: r
    | false => y :: insBy key x r
def anyOver {α : Type} (key : α → Int) (x : α) (l : List α) : Bool := l.any fun y => decide (key x < key y)
def insSoFar {α : Type} (key : α → Int) (x : α) (l : List α) : List α := match anyOver key x l with
  | true => insBy key x l
  | false => l
theorem any_snoc {α : Type} (key : α → Int) (x y : α) (l : List α) : anyOver key x (l ++ [y]) = (anyOver key x l || decide (key x < key y)) := by simp [anyOver]
theorem ins_snoc_in {α : Type} (key : α → Int) (x y : α) : ∀ (l : List α), anyOver key x l = true → insBy key x (l ++ [y]) = insBy key x l ++ [y]
  | [], h => by cases h
  | z :: r, h => by
    simp only [List.cons_append, insBy]
    cases hz : decide (key x < key z) with
    | true => rfl
    | false =>
      have : anyOver key x r = true := by simpa [anyOver, hz] using h
      simp only [List.cons_append]
      rw [ins_snoc_in key x y r this]
theorem ins_snoc_here {α : Type} (key : α → Int) (x y : α) (hy : decide (key x < key y) = true) : ∀ (l : List α), anyOver key x l = false → insBy key x (l ++ [y]) = l ++ [x, y]
  | [], _ => by simp [insBy, hy]
  | z :: r, h => by
    simp only [anyOver, List.any_cons, Bool.or_eq_false_iff] at h
    simp only [List.cons_append, insBy, h.1]
    rw [ins_snoc_here key x y hy r h.2]
theorem ins_none {α : Type} (key : α → Int) (x : α) : ∀ (l : List α), anyOver key x l = false → insBy key x l = l ++ [x]
  | [], _ => rfl
  | z :: r, h => by
    simp only [anyOver, List.any_cons, Bool.or_eq_false_iff] at h
    simp only [List.cons_append, insBy, h.1]
    rw [ins_none key x r h.2]
theorem take_snoc {α : Type} {L : List α} {k : Nat} {x : α} (h : L[k]? = some x) : L.take (k + 1) = L.take k ++ [x] := by
  rw [List.take_add_one, h]; rfl
theorem soFar_in {α : Type} {key : α → Int} {x y : α} {l : List α} (h : anyOver key x l = true) : insSoFar key x (l ++ [y]) = insSoFar key x l ++ [y] := by
  unfold insSoFar
  rw [any_snoc, h, Bool.true_or, ins_snoc_in key x y l h]
theorem soFar_here {α : Type} {key : α → Int} {x y : α} {l : List α} (h : anyOver key x l = false) (hy : decide (key x < key y) = true) : insSoFar key x (l ++ [y]) = (insSoFar key x l ++ [x]) ++ [y] := by
  unfold insSoFar
  rw [any_snoc, h, hy, Bool.or_true, ins_snoc_here key x y hy l h]; simp
theorem soFar_not {α : Type} {key : α → Int} {x y : α} {l : List α} (h : anyOver key x l = false) (hy : decide (key x < key y) = false) : insSoFar key x (l ++ [y]) = insSoFar key x l ++ [y] := by
  unfold insSoFar
  rw [any_snoc, h, hy, Bool.or_false]
theorem soFar_end {α : Type} {key : α → Int} {x : α} {l : List α} : insBy key x l = match anyOver key x l with
    | true => insSoFar key x l
    | false => insSoFar key x l ++ [x] := by
  cases h : anyOver key x l with
  | true => simp [insSoFar, h]
  | false => simp [insSoFar, h, ins_none key x l h]
theorem soFar_len {α : Type} {key : α → Int} {x : α} {l : List α} : (insSoFar key x l).length ≤ l.length + 1 := by
  have : ∀ l : List α, (insBy key x l).length = l.length + 1 := by
    intro l
    induction l with
    | nil => rfl
    | cons y r ih => simp only [insBy]; split <;> simp [ih]
  unfold insSoFar
  split
  · rw [this]; exact Nat.le_refl _
  · omega

def addV (V : List Vip) (v : Vip) : List Vip × Int := match goodV v with
  | false => (V, 2)
  | true => match decide (findI (fun u => decide (u.id = v.id)) V ≥ 0) || decide (findI (sameAt v.addr v.port v.proto) V ≥ 0) with
    | true => (V, 9)
    | false => match decide ((V.length : Int) = 4) with
      | true => (V, 7)
      | false => (insBy Vip.id v V, 0)

theorem addVip_fn (V : List Vip) (B : List Back) (v : Vip) (hv : v.ok) (hV : V.length ≤ 4) : Fn Tryz.prog 59 [farmD V B, .agg (vipD v)] fun d => d = .tup [farmD (addV V v).1 B, intD (addV V v).2] := by
  refine fnOf [] Tryz.func59 rfl (by kernel_rfl) (Nat.le_of_ble_eq_true rfl) ?_
  conv => whnf
  refine CallVC.pure (goodVip_fn v hv) rfl ?_
  rintro _ rfl
  conv => whnf
  refine Fork.intro (fun h1 => ?_) (fun h1 => ?_)
  · conv => whnf
    simp only [Bool.not_eq_true'] at h1
    simp only [addV, h1]
    rfl
  simp only [Bool.not_eq_false'] at h1
  conv => whnf
  refine CallVC.pure (vipAt_fn V B v.id (by omega)) rfl ?_
  rintro _ rfl
  conv => whnf
  refine Fork.intro (fun h2 => ?_) (fun h2 => ?_)
  · conv => whnf
    simp only [addV, h1, ge_iff_le, h2, Bool.true_or]
    rfl
  conv => whnf
  refine CallVC.pure (where_fn V B v.addr v.port v.proto (by omega)) rfl ?_
  rintro _ rfl
  conv => whnf
  refine Fork.intro (fun h3 => ?_) (fun h3 => ?_)
  · conv => whnf
    simp only [addV, h1, ge_iff_le, h2, h3, Bool.false_or]
    rfl
  conv => whnf
  refine Fork.intro (fun h4 => ?_) (fun h4 => ?_)
  · conv => whnf
    simp only [addV, h1, ge_iff_le, h2, h3, Bool.false_or, h4]
    rfl
  have hres : addV V v = (insBy Vip.id v V, 0) := by simp only [addV, h1, ge_iff_le, h2, h3, Bool.false_or, h4]
  rw [hres]
  have hlen : V.length < 4 := by
    have := of_decide_eq_false h4
    omega
  clear h1 h2 h3 h4 hres
  conv => whnf
  refine ⟨Nat × Bool × List Vip, fun p => ⟨[(8, intD p.1), (7, boolD p.2.1), (6, .loc 3 0), (5, intD 0), (4, .loc 2 0), (3, .loc 1 0), (2, .loc 0 0)], [(0, .cells 45 [rowsV V, rowsB B]), (1, .cells 79 (vipD v)), (2, .cells 45 [.v (.slice none 0 0), .v (.slice none 0 0)]), (3, .cells 45 [.grow 4, rowsB B]), (4, .grow Vip 79 5 vipD p.2.2)], 5, ([], 0)⟩,
    fun p => p.1 ≤ V.length ∧ p.2.1 = anyOver Vip.id v (V.take p.1) ∧ p.2.2 = insSoFar Vip.id v (V.take p.1), fun p => V.length - p.1, ⟨(0, false, []), [], [4], ?_, Nat.zero_le _, rfl, rfl⟩, ?_⟩
  · repeat' (first | exact trivial | exact .inl (DLe.refl _) | exact .inl (DLe.nil _ _) | (refine .inr ⟨rfl, _, ?_, rfl⟩; rfl) | exact rfl | exact Nat.zero_le _ | constructor)
  · rintro ⟨k, b, L⟩ ⟨hk, hb, hL⟩
    dsimp only at hk hb hL
    conv => whnf
    refine Fork.intro (fun h1 => ?_) (fun h1 => ?_)
    · have hlt : (k : Int) < V.length := of_decide_eq_true h1
      have hll : L.length ≤ k + 1 := by rw [hL]; exact Nat.le_trans soFar_len (by simp; omega)
      conv => whnf
      refine Fork.intro (fun h2 => ?_) (fun h2 => ?_)
      · conv => whnf
        replace h2 : b = false := by simpa using h2
        refine ⟨rfl, ⟨by show (0 : Int) ≤ k; omega, hlt⟩, fun x hx => ?_⟩
        have hxk : V[k]? = some x := by simpa using hx
        conv => whnf
        refine Fork.intro (fun h3 => ?_) (fun h3 => ?_)
        · conv => whnf
          (refine ⟨Nat.le_of_ble_eq_true rfl, ?_⟩; conv => whnf)
          refine ⟨Vip, vipD, L ++ [v], (by rw [List.map_append]; rfl), fun _ => rfl, by simp only [List.length_append, List.length_cons, List.length_nil]; omega, by simp only [List.length_append, List.length_cons, List.length_nil]; omega, rfl, ?_⟩
          conv => whnf
          refine ⟨rfl, ⟨by show (0 : Int) ≤ k; omega, hlt⟩, fun x' hx' => ?_⟩
          obtain rfl : x = x' := by simpa using hx.symm.trans hx'
          conv => whnf
          (refine ⟨Nat.le_of_ble_eq_true rfl, ?_⟩; conv => whnf)
          refine ⟨Vip, vipD, (L ++ [v]) ++ [x], (by rw [List.map_append]; rfl), fun _ => rfl, by simp only [List.length_append, List.length_cons, List.length_nil]; omega, by simp only [List.length_append, List.length_cons, List.length_nil]; omega, rfl, ?_⟩
          conv => whnf
          rw [wrap_next (show k < V.length by omega) (by omega)]
          refine ⟨(k + 1, true, (L ++ [v]) ++ [x]), [(4, 6)], [], ?_, ⟨by show k + 1 ≤ _; omega, ?_, ?_⟩, by show V.length - (k + 1) < V.length - k; omega⟩
          · repeat' (first | exact trivial | exact .inl (DLe.refl _) | exact .inl (DLe.nil _ _) | (refine .inr ⟨rfl, _, ?_, rfl⟩; rfl) | exact rfl | exact Nat.zero_le _ | constructor)
          · show _ = anyOver Vip.id v (V.take (k + 1))
            rw [take_snoc hxk, any_snoc, ← hb, h3, Bool.or_true]
          · show _ = insSoFar Vip.id v (V.take (k + 1))
            rw [take_snoc hxk, soFar_here (hb.symm.trans h2) h3, ← hL]
        · conv => whnf
          refine ⟨rfl, ⟨by show (0 : Int) ≤ k; omega, hlt⟩, fun x' hx' => ?_⟩
          obtain rfl : x = x' := by simpa using hx.symm.trans hx'
          conv => whnf
          (refine ⟨Nat.le_of_ble_eq_true rfl, ?_⟩; conv => whnf)
          refine ⟨Vip, vipD, L ++ [x], (by rw [List.map_append]; rfl), fun _ => rfl, by simp only [List.length_append, List.length_cons, List.length_nil]; omega, by simp only [List.length_append, List.length_cons, List.length_nil]; omega, rfl, ?_⟩
          conv => whnf
          rw [wrap_next (show k < V.length by omega) (by omega)]
          refine ⟨(k + 1, b, L ++ [x]), [(4, 5)], [], ?_, ⟨by show k + 1 ≤ _; omega, ?_, ?_⟩, by show V.length - (k + 1) < V.length - k; omega⟩
          · repeat' (first | exact trivial | exact .inl (DLe.refl _) | exact .inl (DLe.nil _ _) | (refine .inr ⟨rfl, _, ?_, rfl⟩; rfl) | exact rfl | exact Nat.zero_le _ | constructor)
          · show _ = anyOver Vip.id v (V.take (k + 1))
            rw [take_snoc hxk, any_snoc, ← hb, h3, Bool.or_false]
          · show _ = insSoFar Vip.id v (V.take (k + 1))
            rw [take_snoc hxk, soFar_not (hb.symm.trans h2) h3, ← hL]
      · conv => whnf
        replace h2 : b = true := by simpa using h2
        refine ⟨rfl, ⟨by show (0 : Int) ≤ k; omega, hlt⟩, fun x hx => ?_⟩
        have hxk : V[k]? = some x := by simpa using hx
        conv => whnf
        (refine ⟨Nat.le_of_ble_eq_true rfl, ?_⟩; conv => whnf)
        refine ⟨Vip, vipD, L ++ [x], (by rw [List.map_append]; rfl), fun _ => rfl, by simp only [List.length_append, List.length_cons, List.length_nil]; omega, by simp only [List.length_append, List.length_cons, List.length_nil]; omega, rfl, ?_⟩
        conv => whnf
        rw [wrap_next (show k < V.length by omega) (by omega)]
        refine ⟨(k + 1, b, L ++ [x]), [(4, 5)], [], ?_, ⟨by show k + 1 ≤ _; omega, ?_, ?_⟩, by show V.length - (k + 1) < V.length - k; omega⟩
        · repeat' (first | exact trivial | exact .inl (DLe.refl _) | exact .inl (DLe.nil _ _) | (refine .inr ⟨rfl, _, ?_, rfl⟩; rfl) | exact rfl | exact Nat.zero_le _ | constructor)
        · show _ = anyOver Vip.id v (V.take (k + 1))
          rw [take_snoc hxk, any_snoc, ← hb, h2, Bool.true_or]
        · show _ = insSoFar Vip.id v (V.take (k + 1))
          rw [take_snoc hxk, soFar_in (hb.symm.trans h2), ← hL]
    · have hge : ¬ (k : Int) < V.length := of_decide_eq_false h1
      have hkV : V.take k = V := List.take_of_length_le (by omega)
      have hll : L.length ≤ 5 := by
        rw [hL, hkV]; exact Nat.le_trans soFar_len (by omega)
      rw [hkV] at hL hb
      have hend := @soFar_end _ Vip.id v V
      rw [← hL, ← hb] at hend
      conv => whnf
      refine Fork.intro (fun h2 => ?_) (fun h2 => ?_)
      · conv => whnf
        replace h2 : b = false := by simpa using h2
        (refine ⟨Nat.le_of_ble_eq_true rfl, ?_⟩; conv => whnf)
        refine ⟨Vip, vipD, L ++ [v], (by rw [List.map_append]; rfl), fun _ => rfl, by simp only [List.length_append, List.length_cons, List.length_nil]; omega, by simp only [List.length_append, List.length_cons, List.length_nil]; omega, rfl, ?_⟩
        conv => whnf
        rw [hend, h2]
        rfl
      · conv => whnf
        replace h2 : b = true := by simpa using h2
        rw [hend, h2]
        rfl

abbrev fresh (b : Back) : Back := ⟨b.id, b.vip, b.addr, b.weight, 1, false⟩
def addB (V : List Vip) (B : List Back) (b : Back) : List Back × Int := match goodB (fresh b) with
  | false => (B, 2)
  | true => match decide (findI (fun u => decide (u.id = b.vip)) V < 0) with
    | true => (B, 8)
    | false => match decide (findI (fun u => decide (u.id = b.id)) B ≥ 0) with
      | true => (B, 9)
      | false => match decide ((B.length : Int) = 16) with
        | true => (B, 7)
        | false => (insBy Back.id (fresh b) B, 0)

theorem addBackend_fn (V : List Vip) (B : List Back) (b0 : Back) (hv : b0.ok) (hV : V.length ≤ 4) (hB : B.length ≤ 16) : Fn Tryz.prog 60 [farmD V B, .agg (backD b0)] fun d => d = .tup [farmD V (addB V B b0).1, intD (addB V B b0).2] := by
  refine fnOf [] Tryz.func60 rfl (by kernel_rfl) (Nat.le_of_ble_eq_true rfl) ?_
  conv => whnf
  refine CallVC.pure (goodBackend_fn (fresh b0) ⟨hv.id, hv.addr⟩) rfl ?_
  rintro _ rfl
  conv => whnf
  refine Fork.intro (fun h1 => ?_) (fun h1 => ?_)
  · conv => whnf
    simp only [Bool.not_eq_true'] at h1
    simp only [addB, h1]
    rfl
  simp only [Bool.not_eq_false'] at h1
  conv => whnf
  refine CallVC.pure (vipAt_fn V B b0.vip (by omega)) rfl ?_
  rintro _ rfl
  conv => whnf
  refine Fork.intro (fun h2 => ?_) (fun h2 => ?_)
  · conv => whnf
    simp only [addB, h1, h2]
    rfl
  conv => whnf
  refine CallVC.pure (backAt_fn V B b0.id (by omega)) rfl ?_
  rintro _ rfl
  conv => whnf
  refine Fork.intro (fun h3 => ?_) (fun h3 => ?_)
  · conv => whnf
    simp only [addB, h1, ge_iff_le, h2, h3]
    rfl
  conv => whnf
  refine Fork.intro (fun h4 => ?_) (fun h4 => ?_)
  · conv => whnf
    simp only [addB, h1, ge_iff_le, h2, h3, h4]
    rfl
  have hres : addB V B b0 = (insBy Back.id (fresh b0) B, 0) := by simp only [addB, h1, ge_iff_le, h2, h3, h4]
  rw [hres]
  have hlen : B.length < 16 := by
    have := of_decide_eq_false h4
    omega
  clear h1 h2 h3 h4 hres
  conv => whnf
  refine ⟨Nat × Bool × List Back, fun p => ⟨[(8, intD p.1), (7, boolD p.2.1), (6, .loc 3 0), (5, intD 0), (4, .loc 2 0), (3, .loc 1 0), (2, .loc 0 0)], [(0, .cells 45 [rowsV V, rowsB B]), (1, .cells 81 (backD (fresh b0))), (2, .cells 45 [.v (.slice none 0 0), .v (.slice none 0 0)]), (3, .cells 45 [rowsV V, .grow 4]), (4, .grow Back 81 6 backD p.2.2)], 5, ([], 0)⟩,
    fun p => p.1 ≤ B.length ∧ p.2.1 = anyOver Back.id (fresh b0) (B.take p.1) ∧ p.2.2 = insSoFar Back.id (fresh b0) (B.take p.1), fun p => B.length - p.1, ⟨(0, false, []), [], [4], ?_, Nat.zero_le _, rfl, rfl⟩, ?_⟩
  · repeat' (first | exact trivial | exact .inl (DLe.refl _) | exact .inl (DLe.nil _ _) | (refine .inr ⟨rfl, _, ?_, rfl⟩; rfl) | exact rfl | exact Nat.zero_le _ | constructor)
  · rintro ⟨k, b, L⟩ ⟨hk, hb, hL⟩
    dsimp only at hk hb hL
    conv => whnf
    refine Fork.intro (fun h1 => ?_) (fun h1 => ?_)
    · have hlt : (k : Int) < B.length := of_decide_eq_true h1
      have hll : L.length ≤ k + 1 := by rw [hL]; exact Nat.le_trans soFar_len (by simp; omega)
      conv => whnf
      refine Fork.intro (fun h2 => ?_) (fun h2 => ?_)
      · conv => whnf
        replace h2 : b = false := by simpa using h2
        refine ⟨rfl, ⟨by show (0 : Int) ≤ k; omega, hlt⟩, fun x hx => ?_⟩
        have hxk : B[k]? = some x := by simpa using hx
        conv => whnf
        refine Fork.intro (fun h3 => ?_) (fun h3 => ?_)
        · conv => whnf
          (refine ⟨Nat.le_of_ble_eq_true rfl, ?_⟩; conv => whnf)
          refine ⟨Back, backD, L ++ [fresh b0], (by rw [List.map_append]; rfl), fun _ => rfl, by simp only [List.length_append, List.length_cons, List.length_nil]; omega, by simp only [List.length_append, List.length_cons, List.length_nil]; omega, rfl, ?_⟩
          conv => whnf
          refine ⟨rfl, ⟨by show (0 : Int) ≤ k; omega, hlt⟩, fun x' hx' => ?_⟩
          obtain rfl : x = x' := by simpa using hx.symm.trans hx'
          conv => whnf
          (refine ⟨Nat.le_of_ble_eq_true rfl, ?_⟩; conv => whnf)
          refine ⟨Back, backD, (L ++ [fresh b0]) ++ [x], (by rw [List.map_append]; rfl), fun _ => rfl, by simp only [List.length_append, List.length_cons, List.length_nil]; omega, by simp only [List.length_append, List.length_cons, List.length_nil]; omega, rfl, ?_⟩
          conv => whnf
          rw [wrap_next (show k < B.length by omega) (by omega)]
          refine ⟨(k + 1, true, (L ++ [fresh b0]) ++ [x]), [(4, 6)], [], ?_, ⟨by show k + 1 ≤ _; omega, ?_, ?_⟩, by show B.length - (k + 1) < B.length - k; omega⟩
          · repeat' (first | exact trivial | exact .inl (DLe.refl _) | exact .inl (DLe.nil _ _) | (refine .inr ⟨rfl, _, ?_, rfl⟩; rfl) | exact rfl | exact Nat.zero_le _ | constructor)
          · show _ = anyOver Back.id (fresh b0) (B.take (k + 1))
            rw [take_snoc hxk, any_snoc, ← hb, h3, Bool.or_true]
          · show _ = insSoFar Back.id (fresh b0) (B.take (k + 1))
            rw [take_snoc hxk, soFar_here (hb.symm.trans h2) h3, ← hL]
        · conv => whnf
          refine ⟨rfl, ⟨by show (0 : Int) ≤ k; omega, hlt⟩, fun x' hx' => ?_⟩
          obtain rfl : x = x' := by simpa using hx.symm.trans hx'
          conv => whnf
          (refine ⟨Nat.le_of_ble_eq_true rfl, ?_⟩; conv => whnf)
          refine ⟨Back, backD, L ++ [x], (by rw [List.map_append]; rfl), fun _ => rfl, by simp only [List.length_append, List.length_cons, List.length_nil]; omega, by simp only [List.length_append, List.length_cons, List.length_nil]; omega, rfl, ?_⟩
          conv => whnf
          rw [wrap_next (show k < B.length by omega) (by omega)]
          refine ⟨(k + 1, b, L ++ [x]), [(4, 5)], [], ?_, ⟨by show k + 1 ≤ _; omega, ?_, ?_⟩, by show B.length - (k + 1) < B.length - k; omega⟩
          · repeat' (first | exact trivial | exact .inl (DLe.refl _) | exact .inl (DLe.nil _ _) | (refine .inr ⟨rfl, _, ?_, rfl⟩; rfl) | exact rfl | exact Nat.zero_le _ | constructor)
          · show _ = anyOver Back.id (fresh b0) (B.take (k + 1))
            rw [take_snoc hxk, any_snoc, ← hb, h3, Bool.or_false]
          · show _ = insSoFar Back.id (fresh b0) (B.take (k + 1))
            rw [take_snoc hxk, soFar_not (hb.symm.trans h2) h3, ← hL]
      · conv => whnf
        replace h2 : b = true := by simpa using h2
        refine ⟨rfl, ⟨by show (0 : Int) ≤ k; omega, hlt⟩, fun x hx => ?_⟩
        have hxk : B[k]? = some x := by simpa using hx
        conv => whnf
        (refine ⟨Nat.le_of_ble_eq_true rfl, ?_⟩; conv => whnf)
        refine ⟨Back, backD, L ++ [x], (by rw [List.map_append]; rfl), fun _ => rfl, by simp only [List.length_append, List.length_cons, List.length_nil]; omega, by simp only [List.length_append, List.length_cons, List.length_nil]; omega, rfl, ?_⟩
        conv => whnf
        rw [wrap_next (show k < B.length by omega) (by omega)]
        refine ⟨(k + 1, b, L ++ [x]), [(4, 5)], [], ?_, ⟨by show k + 1 ≤ _; omega, ?_, ?_⟩, by show B.length - (k + 1) < B.length - k; omega⟩
        · repeat' (first | exact trivial | exact .inl (DLe.refl _) | exact .inl (DLe.nil _ _) | (refine .inr ⟨rfl, _, ?_, rfl⟩; rfl) | exact rfl | exact Nat.zero_le _ | constructor)
        · show _ = anyOver Back.id (fresh b0) (B.take (k + 1))
          rw [take_snoc hxk, any_snoc, ← hb, h2, Bool.true_or]
        · show _ = insSoFar Back.id (fresh b0) (B.take (k + 1))
          rw [take_snoc hxk, soFar_in (hb.symm.trans h2), ← hL]
    · have hge : ¬ (k : Int) < B.length := of_decide_eq_false h1
      have hkV : B.take k = B := List.take_of_length_le (by omega)
      have hll : L.length ≤ 17 := by
        rw [hL, hkV]; exact Nat.le_trans soFar_len (by omega)
      rw [hkV] at hL hb
      have hend := @soFar_end _ Back.id (fresh b0) B
      rw [← hL, ← hb] at hend
      conv => whnf
      refine Fork.intro (fun h2 => ?_) (fun h2 => ?_)
      · conv => whnf
        replace h2 : b = false := by simpa using h2
        (refine ⟨Nat.le_of_ble_eq_true rfl, ?_⟩; conv => whnf)
        refine ⟨Back, backD, L ++ [fresh b0], (by rw [List.map_append]; rfl), fun _ => rfl, by simp only [List.length_append, List.length_cons, List.length_nil]; omega, by simp only [List.length_append, List.length_cons, List.length_nil]; omega, rfl, ?_⟩
        conv => whnf
        rw [hend, h2]
        rfl
      · conv => whnf
        replace h2 : b = true := by simpa using h2
        rw [hend, h2]
        rfl

def with1 (b : Back) (no : Bool) (x : Back) : List Back := match !decide (x.id = b.id) with
  | true => [x]
  | false => match !no with
    | true => [b]
    | false => []
def withB (B : List Back) (b : Back) (no : Bool) : List Back := B.flatMap (with1 b no)
theorem withB_snoc (L : List Back) (b : Back) (no : Bool) (x : Back) : withB (L ++ [x]) b no = withB L b no ++ with1 b no x := by simp [withB]
theorem withB_len (b : Back) (no : Bool) : ∀ L : List Back, (withB L b no).length ≤ L.length
  | [] => Nat.le_refl _
  | x :: r => by
    have h := withB_len b no r
    have h1 : (with1 b no x).length ≤ 1 := by
      unfold with1
      split
      · exact Nat.le_refl _
      · split
        · exact Nat.le_refl _
        · exact Nat.zero_le _
    simp only [withB, List.flatMap_cons, List.length_append, List.length_cons] at *
    omega

theorem with_fn (V : List Vip) (B : List Back) (b : Back) (no : Bool) (hB : B.length ≤ 16) : Fn Tryz.prog 88 [farmD V B, .agg (backD b), boolD no] fun d => d = farmD V (withB B b no) := by
  refine fnOf [] Tryz.func88 rfl (by kernel_rfl) (Nat.le_of_ble_eq_true rfl) ?_
  conv => whnf
  refine ⟨Nat × List Back, fun p => ⟨[(8, intD p.1), (7, .loc 3 0), (6, .loc 2 0), (4, .loc 1 0), (3, .loc 0 0), (2, boolD no)], [(0, .cells 45 [rowsV V, rowsB B]), (1, .cells 81 (backD b)), (2, .cells 45 [.v (.slice none 0 0), .v (.slice none 0 0)]), (3, .cells 45 [rowsV V, .grow 4]), (4, .grow Back 81 6 backD p.2)], 5, ([], 0)⟩,
    fun p => p.1 ≤ B.length ∧ p.2 = withB (B.take p.1) b no, fun p => B.length - p.1, ⟨(0, []), [], [4], ?_, Nat.zero_le _, rfl⟩, ?_⟩
  · repeat' (first | exact trivial | exact .inl (DLe.refl _) | exact .inl (DLe.nil _ _) | (refine .inr ⟨rfl, _, ?_, rfl⟩; rfl) | exact rfl | exact Nat.zero_le _ | constructor)
  · rintro ⟨k, L⟩ ⟨hk, hL⟩
    dsimp only at hk hL
    conv => whnf
    refine Fork.intro (fun h1 => ?_) (fun h1 => ?_)
    · have hlt : (k : Int) < B.length := of_decide_eq_true h1
      have hll : L.length ≤ k := by rw [hL]; exact Nat.le_trans (withB_len _ _ _) (by simp; omega)
      conv => whnf
      refine ⟨rfl, ⟨by show (0 : Int) ≤ k; omega, hlt⟩, fun x hx => ?_⟩
      have hxk : B[k]? = some x := by simpa using hx
      have hn : withB (B.take (k + 1)) b no = L ++ with1 b no x := by rw [take_snoc hxk, withB_snoc, ← hL]
      conv => whnf
      refine Fork.intro (fun h2 => ?_) (fun h2 => ?_)
      · conv => whnf
        refine ⟨rfl, ⟨by show (0 : Int) ≤ k; omega, hlt⟩, fun x' hx' => ?_⟩
        obtain rfl : x = x' := by simpa using hx.symm.trans hx'
        conv => whnf
        (refine ⟨Nat.le_of_ble_eq_true rfl, ?_⟩; conv => whnf)
        refine ⟨Back, backD, L ++ [x], (by rw [List.map_append]; rfl), fun _ => rfl, by simp only [List.length_append, List.length_cons, List.length_nil]; omega, by simp only [List.length_append, List.length_cons, List.length_nil]; omega, rfl, ?_⟩
        conv => whnf
        rw [wrap_next (show k < B.length by omega) (by omega)]
        refine ⟨(k + 1, L ++ [x]), [(4, 5)], [], ?_, ⟨by show k + 1 ≤ _; omega, ?_⟩, by show B.length - (k + 1) < B.length - k; omega⟩
        · repeat' (first | exact trivial | exact .inl (DLe.refl _) | exact .inl (DLe.nil _ _) | (refine .inr ⟨rfl, _, ?_, rfl⟩; rfl) | exact rfl | exact Nat.zero_le _ | constructor)
        · rw [hn]; simp only [with1, h2]
      · conv => whnf
        refine Fork.intro (fun h3 => ?_) (fun h3 => ?_)
        · conv => whnf
          (refine ⟨Nat.le_of_ble_eq_true rfl, ?_⟩; conv => whnf)
          refine ⟨Back, backD, L ++ [b], (by rw [List.map_append]; rfl), fun _ => rfl, by simp only [List.length_append, List.length_cons, List.length_nil]; omega, by simp only [List.length_append, List.length_cons, List.length_nil]; omega, rfl, ?_⟩
          conv => whnf
          rw [wrap_next (show k < B.length by omega) (by omega)]
          refine ⟨(k + 1, L ++ [b]), [(4, 5)], [], ?_, ⟨by show k + 1 ≤ _; omega, ?_⟩, by show B.length - (k + 1) < B.length - k; omega⟩
          · repeat' (first | exact trivial | exact .inl (DLe.refl _) | exact .inl (DLe.nil _ _) | (refine .inr ⟨rfl, _, ?_, rfl⟩; rfl) | exact rfl | exact Nat.zero_le _ | constructor)
          · rw [hn]; simp only [with1, h2, h3]
        · conv => whnf
          rw [wrap_next (show k < B.length by omega) (by omega)]
          refine ⟨(k + 1, L), [], [], ?_, ⟨by show k + 1 ≤ _; omega, ?_⟩, by show B.length - (k + 1) < B.length - k; omega⟩
          · repeat' (first | exact trivial | exact .inl (DLe.refl _) | exact .inl (DLe.nil _ _) | (refine .inr ⟨rfl, _, ?_, rfl⟩; rfl) | exact rfl | exact Nat.zero_le _ | constructor)
          · rw [hn]; simp only [with1, h2, h3, List.append_nil]
    · have hge : ¬ (k : Int) < B.length := of_decide_eq_false h1
      have hkB : B.take k = B := List.take_of_length_le (by omega)
      rw [hkB] at hL
      conv => whnf
      rw [← hL]
      rfl

theorem with_raw (V : List Vip) (B : List Back) {i p a w l : Int} {u no : Bool} (hB : B.length ≤ 16) : Fn Tryz.prog 88 [farmD V B, .agg [.v (.int .i64 i), .v (.int .i64 p), .v (.int .u32 a), .v (.int .i64 w), .v (.int .i64 l), .v (.bool u)], boolD no] fun d => d = farmD V (withB B ⟨i, p, a, w, l, u⟩ no) := with_fn V B ⟨i, p, a, w, l, u⟩ no hB

theorem findI_lt {α : Type} {p : α → Bool} {L : List α} (h : decide (findI p L < 0) = false) : 0 ≤ findI p L ∧ findI p L < L.length := by
  have h := of_decide_eq_false h
  refine ⟨by omega, ?_⟩
  unfold findI at *
  split
  · rename_i i hi
    have := (List.findIdx?_eq_some_iff_getElem.1 hi).1
    omega
  · rename_i hi
    rw [hi] at h
    exact absurd (by decide) h

def chg (kind w : Int) (b : Back) : Back := ⟨b.id, b.vip, b.addr, (match decide (kind = 2) with
  | true => w
  | false => b.weight), (match decide (kind = 1) with
  | true => 2
  | false => b.life), (match decide (2 < kind) with
  | true => decide (kind = 3)
  | false => b.up)⟩
def changeB (B : List Back) (kind id w : Int) : List Back × Int := match decide (kind = 2) && (decide (w < 1) || decide (8 < w)) with
  | true => (B, 2)
  | false => match decide (findI (fun u => decide (u.id = id)) B < 0) with
    | true => (B, 8)
    | false => match B[(findI (fun u => decide (u.id = id)) B).toNat]? with
      | none => (B, 8)
      | some b => (withB B (chg kind w b) (decide (kind = 0)), 0)

theorem tupEq {V : List Vip} {B B' : List Back} {n n' : Int} (h : (B, n) = (B', n')) : D.tup [farmD V B, intD n] = D.tup [farmD V B', intD n'] := by
  injection h with h1 h2
  rw [h1, h2]

theorem change_fn (V : List Vip) (B : List Back) (kind id w : Int) (hB : B.length ≤ 16) : Fn Tryz.prog 61 [farmD V B, intD kind, intD id, intD w] fun d => d = .tup [farmD V (changeB B kind id w).1, intD (changeB B kind id w).2] := by
  refine fnOf [] Tryz.func61 rfl (by kernel_rfl) (Nat.le_of_ble_eq_true rfl) ?_
  conv => whnf
  repeat' (first
    | (refine Fork.intro (fun _ => ?_) (fun _ => ?_) <;> conv => whnf)
    | (refine CallVC.pure (backAt_fn V B id (by omega)) rfl ?_; rintro _ rfl; conv => whnf)
    | (rename_i hneg; refine ⟨rfl, findI_lt hneg, fun x hx => ?_⟩; conv => whnf)
    | (refine CallVC.pure (with_raw V B hB) rfl ?_; rintro _ rfl; conv => whnf))
  all_goals (refine tupEq ?_; simp only [changeB, chg])
  all_goals (simp only [*, Bool.and_true, Bool.true_and, Bool.or_true, Bool.true_or, Bool.or_false, Bool.false_or, Bool.false_and, Bool.and_false])
  all_goals simp_all

def mode1 (K m : Int) (i : Nat) (v : Vip) : Vip := match decide ((i : Int) = K) with
  | true => ⟨v.id, v.addr, v.port, v.proto, m⟩
  | false => v
def modeV (V : List Vip) (id m : Int) : List Vip × Int := match !decide (m = 1) && !decide (m = 2) with
  | true => (V, 2)
  | false => match decide (findI (fun u => decide (u.id = id)) V < 0) with
    | true => (V, 8)
    | false => match V[(findI (fun u => decide (u.id = id)) V).toNat]? with
      | none => (V, 8)
      | some v => match decide (m = 2) && !decide (v.proto = 6) with
        | true => (V, 2)
        | false => (V.mapIdx (mode1 (findI (fun u => decide (u.id = id)) V) m), 0)

theorem tupEqV {B : List Back} {V V' : List Vip} {n n' : Int} (h : (V, n) = (V', n')) : D.tup [farmD V B, intD n] = D.tup [farmD V' B, intD n'] := by
  injection h with h1 h2
  rw [h1, h2]
theorem mode_fn (V : List Vip) (B : List Back) (id m : Int) (hV : V.length ≤ 4) : Fn Tryz.prog 62 [farmD V B, intD id, intD m] fun d => d = .tup [farmD (modeV V id m).1 B, intD (modeV V id m).2] := by
  refine fnOf [] Tryz.func62 rfl (by kernel_rfl) (Nat.le_of_ble_eq_true rfl) ?_
  generalize hK : findI (fun u : Vip => decide (u.id = id)) V = K
  have hloop : ∀ v, decide (K < 0) = false → V[K.toNat]? = some v → (!decide (m = 1) && !decide (m = 2)) = false → (decide (m = 2) && !decide (v.proto = 6)) = false → modeV V id m = (V.mapIdx (mode1 K m), 0) := by
    intro v h1 h2 h3 h4
    simp only [modeV, hK, h1, h2, h3, h4]
  have hin : decide (K < 0) = false → 0 ≤ K ∧ K < V.length := fun h => hK ▸ findI_lt (hK ▸ h)
  have hlast : decide (K < 0) = false → ∃ v, V[K.toNat]? = some v := fun h => by
    have := hin h
    exact ⟨_, List.getElem?_eq_getElem (by omega)⟩
  conv => whnf
  repeat' (first
    | (refine Fork.intro (fun _ => ?_) (fun _ => ?_) <;> conv => whnf)
    | (refine CallVC.pure (vipAt_fn V B id (by omega)) rfl ?_; rintro _ rfl; rw [hK]; conv => whnf)
    | (refine ⟨rfl, hin (by assumption), fun x hx => ?_⟩; conv => whnf))
  all_goals first
    | (refine tupEqV ?_; simp only [modeV, *, Bool.not_true, Bool.not_false, Bool.and_true, Bool.true_and, Bool.and_false, Bool.false_and]; done)
    | (have hend : modeV V id m = (V.mapIdx (mode1 K m), 0) := by
         obtain ⟨v, hv⟩ := hlast (by assumption)
         refine hloop v (by assumption) hv ?_ ?_
         · simp_all
         · simp_all
       rw [hend]
       clear hend hlast hin hloop hK
       refine ⟨Nat × List Vip, fun p => ⟨[(10, intD p.1), (9, .loc 2 0), (8, intD K), (7, intD 0), (6, .loc 1 0), (3, .loc 0 0), (2, intD m)], [(0, .cells 45 [rowsV V, rowsB B]), (1, .cells 45 [.v (.slice none 0 0), .v (.slice none 0 0)]), (2, .cells 45 [.grow 3, rowsB B]), (3, .grow Vip 79 5 vipD p.2)], 4, ([], 0)⟩,
         fun p => p.1 ≤ V.length ∧ p.2 = (V.take p.1).mapIdx (mode1 K m), fun p => V.length - p.1, ⟨(0, []), [], [3], ?_, Nat.zero_le _, rfl⟩, ?_⟩
       · repeat' (first | exact trivial | exact .inl (DLe.refl _) | exact .inl (DLe.nil _ _) | (refine .inr ⟨rfl, _, ?_, rfl⟩; rfl) | exact rfl | exact Nat.zero_le _ | constructor)
       · rintro ⟨k, L⟩ ⟨hk, hL⟩
         dsimp only at hk hL
         conv => whnf
         refine Fork.intro (fun h1 => ?_) (fun h1 => ?_)
         · have hlt : (k : Int) < V.length := of_decide_eq_true h1
           have hll : L.length ≤ k := by rw [hL]; simp; omega
           conv => whnf
           refine ⟨rfl, ⟨by show (0 : Int) ≤ k; omega, hlt⟩, fun x hx => ?_⟩
           have hxk : V[k]? = some x := by simpa using hx
           have hn : (V.take (k + 1)).mapIdx (mode1 K m) = L ++ [mode1 K m k x] := by
             rw [take_snoc hxk, List.mapIdx_concat, ← hL, show (V.take k).length = k by rw [List.length_take]; omega]
           conv => whnf
           refine Fork.intro (fun h2 => ?_) (fun h2 => ?_)
           all_goals
             conv => whnf
             (refine ⟨Nat.le_of_ble_eq_true rfl, ?_⟩; conv => whnf)
             refine ⟨Vip, vipD, L ++ [mode1 K m k x], (by rw [List.map_append]; simp only [mode1, h2]; rfl), fun _ => rfl, by simp only [List.length_append, List.length_cons, List.length_nil]; omega, by simp only [List.length_append, List.length_cons, List.length_nil]; omega, rfl, ?_⟩
             conv => whnf
             rw [wrap_next (show k < V.length by omega) (by omega)]
             refine ⟨(k + 1, L ++ [mode1 K m k x]), [(3, 5)], [], ?_, ⟨by show k + 1 ≤ _; omega, hn.symm⟩, by show V.length - (k + 1) < V.length - k; omega⟩
             repeat' (first | exact trivial | exact .inl (DLe.refl _) | exact .inl (DLe.nil _ _) | (refine .inr ⟨rfl, _, ?_, rfl⟩; rfl) | exact rfl | exact Nat.zero_le _ | constructor)
         · have hge : ¬ (k : Int) < V.length := of_decide_eq_false h1
           have hkV : V.take k = V := List.take_of_length_le (by omega)
           rw [hkV] at hL
           conv => whnf
           rw [← hL]
           rfl)

end Go.Proofs.YtooaeccmkgockaaGreatDoor.V
namespace Go.Proofs.YtooaeccmkgockaaGreatDoor.V
open Go.RowKit
attribute [local irreducible] Fn OpVC

structure Deed where
  kind : Int
  v : Vip
  b : Back
  n : Int
def deedD (d : Deed) : List D := [intD d.kind, intD d.v.id, .v (.int .u32 d.v.addr), .v (.int .u16 d.v.port), .v (.int .u8 d.v.proto), intD d.v.mode,
  intD d.b.id, intD d.b.vip, .v (.int .u32 d.b.addr), intD d.b.weight, intD d.b.life, boolD d.b.up, intD d.n]
structure Deed.ok (d : Deed) : Prop where
  v : d.v.ok
  b : d.b.ok
abbrev rowsDeed (L : List Deed) : D := .rows Deed 13 deedD L

structure FarmOk (V : List Vip) (B : List Back) : Prop where
  lv : V.length ≤ 4
  lb : B.length ≤ 16
  v : ∀ x, x ∈ V → x.ok
  b : ∀ x, x ∈ B → x.ok

theorem ins_mem {α : Type} {key : α → Int} {x y : α} : ∀ {l : List α}, y ∈ insBy key x l → y = x ∨ y ∈ l
  | [], h => by simp [insBy] at h; exact .inl h
  | z :: r, h => by
    simp only [insBy] at h
    split at h
    · rcases List.mem_cons.1 h with h | h
      · exact .inl h
      · exact .inr h
    · rcases List.mem_cons.1 h with h | h
      · exact .inr (by rw [h]; exact List.mem_cons_self)
      · rcases ins_mem h with h | h
        · exact .inl h
        · exact .inr (List.mem_cons_of_mem _ h)
theorem ins_len {α : Type} {key : α → Int} {x : α} : ∀ l : List α, (insBy key x l).length = l.length + 1
  | [] => rfl
  | y :: r => by simp only [insBy]; split <;> simp [ins_len r]

theorem addV_ok {V : List Vip} {B : List Back} {v : Vip} (h : FarmOk V B) (hv : v.ok) : FarmOk (addV V v).1 B := by
  unfold addV
  split
  · exact h
  · split
    · exact h
    · split
      · exact h
      · rename_i h4
        have h4 := of_decide_eq_false h4
        refine ⟨by rw [ins_len]; have := h.lv; omega, h.lb, fun x hx => ?_, h.b⟩
        rcases ins_mem hx with rfl | hx
        · exact hv
        · exact h.v x hx
theorem addB_ok {V : List Vip} {B : List Back} {b : Back} (h : FarmOk V B) (hb : b.ok) : FarmOk V (addB V B b).1 := by
  unfold addB
  split
  · exact h
  · split
    · exact h
    · split
      · exact h
      · split
        · exact h
        · rename_i h4
          have h4 := of_decide_eq_false h4
          refine ⟨h.lv, by rw [ins_len]; have := h.lb; omega, h.v, fun x hx => ?_⟩
          rcases ins_mem hx with rfl | hx
          · exact ⟨hb.id, hb.addr⟩
          · exact h.b x hx
theorem withB_mem {B : List Back} {b : Back} {no : Bool} {x : Back} (h : x ∈ withB B b no) : x = b ∨ x ∈ B := by
  unfold withB at h
  rw [List.mem_flatMap] at h
  obtain ⟨y, hy, h⟩ := h
  unfold with1 at h
  split at h
  · simp at h; subst h; exact .inr hy
  · split at h
    · simp at h; exact .inl h
    · cases h
theorem changeB_ok {V : List Vip} {B : List Back} {kind id w : Int} (h : FarmOk V B) : FarmOk V (changeB B kind id w).1 := by
  unfold changeB
  split
  · exact h
  · split
    · exact h
    · split
      · exact h
      · rename_i b hb
        refine ⟨h.lv, Nat.le_trans (withB_len _ _ _) h.lb, h.v, fun x hx => ?_⟩
        rcases withB_mem hx with rfl | hx
        · have := h.b b (List.mem_of_getElem? hb)
          exact ⟨this.id, this.addr⟩
        · exact h.b x hx
theorem modeV_ok {V : List Vip} {B : List Back} {id m : Int} (h : FarmOk V B) : FarmOk (modeV V id m).1 B := by
  unfold modeV
  split
  · exact h
  · rename_i hm
    split
    · exact h
    · split
      · exact h
      · split
        · exact h
        · refine ⟨by simpa using h.lv, h.lb, fun x hx => ?_, h.b⟩
          rw [List.mem_mapIdx] at hx
          obtain ⟨i, hi, rfl⟩ := hx
          have := h.v V[i] (List.getElem_mem hi)
          unfold mode1
          split
          · refine ⟨this.id, this.addr, this.port, this.proto, ?_⟩
            show -9223372036854775808 ≤ m ∧ m ≤ 9223372036854775807
            simp only [Bool.and_eq_false_iff, Bool.not_eq_false', decide_eq_true_eq] at hm
            omega
          · exact this

def would (V : List Vip) (B : List Back) (d : Deed) : (List Vip × List Back) × Int := match decide (d.kind = 0) with
  | true => (((addV V d.v).1, B), (addV V d.v).2)
  | false => match decide (d.kind = 1) with
    | true => ((V, (addB V B d.b).1), (addB V B d.b).2)
    | false => match decide (2 ≤ d.kind) && decide (d.kind ≤ 6) with
      | true => ((V, (changeB B (d.kind - 2) d.b.id d.n).1), (changeB B (d.kind - 2) d.b.id d.n).2)
      | false => (((modeV V d.v.id d.n).1, B), (modeV V d.v.id d.n).2)

theorem would_ok {V : List Vip} {B : List Back} {d : Deed} (h : FarmOk V B) (hd : d.ok) : FarmOk (would V B d).1.1 (would V B d).1.2 := by
  unfold would
  split
  · exact addV_ok h hd.v
  · split
    · exact addB_ok h hd.b
    · split
      · exact changeB_ok h
      · exact modeV_ok h

theorem tupF {B B' : List Back} {V V' : List Vip} {n n' : Int} (h : ((V, B), n) = ((V', B'), n')) : D.tup [farmD V B, intD n] = D.tup [farmD V' B', intD n'] := by
  injection h with h1 h2
  injection h1 with h1 h3
  rw [h1, h2, h3]
theorem wrap_sub2 {k : Int} (h : 2 ≤ k) (h6 : k ≤ 6) : IntKind.i64.wrap (k - 2) = k - 2 := by
  rw [IntWalk.i64_in _ (by omega)]

theorem would_fn (V : List Vip) (B : List Back) (d : Deed) (h : FarmOk V B) (hd : d.ok) : Fn Tryz.prog 44 [farmD V B, .agg (deedD d)] fun r => r = .tup [farmD (would V B d).1.1 (would V B d).1.2, intD (would V B d).2] := by
  refine fnOf [] Tryz.func44 rfl (by kernel_rfl) (Nat.le_of_ble_eq_true rfl) ?_
  conv => whnf
  repeat' (first
    | (refine Fork.intro (fun _ => ?_) (fun _ => ?_) <;> conv => whnf)
    | (refine CallVC.pure (addVip_fn V B d.v hd.v h.lv) rfl ?_; rintro _ rfl; conv => whnf)
    | (refine CallVC.pure (addBackend_fn V B d.b hd.b h.lv h.lb) rfl ?_; rintro _ rfl; conv => whnf)
    | (refine CallVC.pure (change_fn V B _ d.b.id d.n h.lb) rfl ?_; rintro _ rfl; conv => whnf)
    | (refine CallVC.pure (mode_fn V B d.v.id d.n h.lv) rfl ?_; rintro _ rfl; conv => whnf))
  all_goals
    refine tupF ?_
    simp only [decide_eq_true_eq, decide_eq_false_iff_not] at *
    try rw [wrap_sub2 (by omega) (by omega)]
    unfold would
    first
      | rw [decide_eq_true (by assumption : d.kind = 0)]
      | (rw [decide_eq_false (by assumption : ¬ d.kind = 0)]
         first
           | rw [decide_eq_true (by assumption : d.kind = 1)]
           | (rw [decide_eq_false (by assumption : ¬ d.kind = 1)]
              first
                | rw [decide_eq_true (by omega : 2 ≤ d.kind), decide_eq_true (by omega : d.kind ≤ 6)]; rfl
                | (have : (decide (2 ≤ d.kind) && decide (d.kind ≤ 6)) = false := by
                     rw [← Bool.not_eq_true, Bool.and_eq_true, decide_eq_true_eq, decide_eq_true_eq]; omega
                   rw [this])))

def madeTo (L : List Deed) : Nat → List Vip × List Back
  | 0 => ([], [])
  | k + 1 => match L[k]? with
    | some d => (would (madeTo L k).1 (madeTo L k).2 d).1
    | none => madeTo L k
def made (L : List Deed) : List Vip × List Back := madeTo L (min L.length 60)
theorem madeTo_ok {L : List Deed} (h : ∀ x, x ∈ L → x.ok) : ∀ k, FarmOk (madeTo L k).1 (madeTo L k).2
  | 0 => ⟨Nat.zero_le _, Nat.zero_le _, fun x h => by simp [madeTo] at h, fun x h => by simp [madeTo] at h⟩
  | k + 1 => by
    rw [madeTo]
    split
    · rename_i d hd
      exact would_ok (madeTo_ok h k) (h d (List.mem_of_getElem? hd))
    · exact madeTo_ok h k

theorem made_fn (L : List Deed) (hL : ∀ x, x ∈ L → x.ok) : Fn Tryz.prog 18 [rowsDeed L] fun r => r = farmD (made L).1 (made L).2 := by
  refine fnOf [] Tryz.func18 rfl (by kernel_rfl) (Nat.le_of_ble_eq_true rfl) ?_
  conv => whnf
  refine ⟨Nat, fun k => ⟨[(4, intD k), (3, .loc 1 0), (2, .loc 0 0), (0, rowsDeed L)], [(0, .cells 45 [.v (.slice none 0 0), .v (.slice none 0 0)]), (1, .cells 45 [rowsV (madeTo L k).1, rowsB (madeTo L k).2])], 2, ([], 0)⟩,
    fun k => k ≤ L.length ∧ k ≤ 60, fun k => L.length - k, ⟨0, [], [], ?_, Nat.zero_le _, Nat.zero_le _⟩, ?_⟩
  · repeat' (first | exact trivial | exact .inl (DLe.refl _) | exact .inl (DLe.nil _ _) | (refine .inr ⟨rfl, _, ?_, rfl⟩; rfl) | exact rfl | exact Nat.zero_le _ | constructor)
  · rintro k ⟨hk, hk60⟩
    have hend : ¬ (k < L.length ∧ k < 60) → made L = madeTo L k := fun h => by
      unfold made
      congr 1
      omega
    conv => whnf
    refine Fork.intro (fun h1 => ?_) (fun h1 => ?_)
    · have hlt : (k : Int) < L.length := of_decide_eq_true h1
      conv => whnf
      refine Fork.intro (fun h2 => ?_) (fun h2 => ?_)
      · have hlt2 : (k : Int) < 60 := of_decide_eq_true h2
        conv => whnf
        refine ⟨rfl, ⟨by omega, hlt⟩, fun x hx => ?_⟩
        have hxk : L[k]? = some x := by simpa using hx
        have hn : madeTo L (k + 1) = (would (madeTo L k).1 (madeTo L k).2 x).1 := by rw [madeTo, hxk]
        conv => whnf
        refine CallVC.pure (would_fn _ _ x (madeTo_ok hL k) (hL x (List.mem_of_getElem? hxk))) rfl ?_
        rintro _ rfl
        rw [← hn]
        conv => whnf
        rw [wrap_next (show k < 60 by omega) (by omega)]
        refine ⟨k + 1, [], [], ?_, ⟨by omega, by omega⟩, by show L.length - (k + 1) < L.length - k; omega⟩
        repeat' (first | exact trivial | exact .inl (DLe.refl _) | exact .inl (DLe.nil _ _) | (refine .inr ⟨rfl, _, ?_, rfl⟩; rfl) | exact rfl | exact Nat.zero_le _ | constructor)
      · conv => whnf
        have hge : ¬ (k : Int) < 60 := of_decide_eq_false h2
        rw [hend (by omega)]
        rfl
    · conv => whnf
      have hge : ¬ (k : Int) < L.length := of_decide_eq_false h1
      rw [hend (by omega)]
      rfl
end Go.Proofs.YtooaeccmkgockaaGreatDoor.V
namespace Go.Proofs.YtooaeccmkgockaaGreatDoor.V
open Go.RowKit
attribute [local irreducible] Fn OpVC

theorem like_fn (v : Vip) {i a p t m : Int} : Fn Tryz.prog 65 [.agg (vipD v), .agg [intD i, .v (.int .u32 a), .v (.int .u16 p), .v (.int .u8 t), intD m]] fun d => d = boolD (sameAt a p t v) := by
  refine fnOf [] Tryz.func65 rfl (by kernel_rfl) (Nat.le_of_ble_eq_true rfl) ?_
  conv => whnf
  repeat' (refine Fork.intro (fun _ => ?_) (fun _ => ?_) <;> conv => whnf)
  all_goals
    congr 2
    simp_all [sameAt]

def getAt {α : Type} (p : α → Bool) (L : List α) : Option α := match decide (findI p L < 0) with
  | true => none
  | false => L[(findI p L).toNat]?
theorem indexFuncV_fn (V : List Vip) {f : FuncId} {c : Value} {p : Vip → Bool} (hf : ∀ x, x ∈ V → Fn Tryz.prog f [.agg (vipD x), .fp [.v c]] fun d => d = boolD (p x)) (hV : V.length ≤ 1000000) :
    Fn Tryz.prog 89 [rowsV V, .fn f [] [.fp [.v c]]] fun d => d = intD (findI p V) := by
  refine fnOf [] Tryz.func89 rfl (by kernel_rfl) (Nat.le_of_ble_eq_true rfl) ?_
  conv => whnf
  refine ⟨Nat, fun k => ⟨[(8, intD k), (7, intD V.length), (0, rowsV V), (1, .fn f [] [.fp [.v c]])], [], 0, ([], 0)⟩,
    fun k => k ≤ V.length ∧ ∀ (j : Nat) u, j < k → V[j]? = some u → p u = false, fun k => V.length - k, ⟨0, [], [], ?_, Nat.zero_le _, fun j u h => by omega⟩, ?_⟩
  · repeat' (first | exact trivial | exact .inl (DLe.refl _) | exact .inl (DLe.nil _ _) | (refine .inr ⟨rfl, _, ?_, rfl⟩; rfl) | exact rfl | exact Nat.zero_le _ | constructor)
  · rintro k ⟨hk, hno⟩
    conv => whnf
    refine Fork.intro (fun h1 => ?_) (fun h1 => ?_)
    · have hlt : (k : Int) < V.length := of_decide_eq_true h1
      conv => whnf
      refine ⟨rfl, ⟨by omega, hlt⟩, fun x hx => ?_⟩
      have hxk : V[k]? = some x := by simpa using hx
      conv => whnf
      refine CallVC.pure (hf x (List.mem_of_getElem? hxk)) rfl ?_
      rintro _ rfl
      conv => whnf
      refine Fork.intro (fun h2 => ?_) (fun h2 => ?_)
      · conv => whnf
        rw [findI_at hxk h2 hno]
      · conv => whnf
        rw [wrap_next (show k < V.length by omega) hV]
        refine ⟨k + 1, [], [], ?_, ⟨by omega, no_next hxk h2 hno⟩, by show V.length - (k + 1) < V.length - k; omega⟩
        repeat' (first | exact trivial | exact .inl (DLe.refl _) | exact .inl (DLe.nil _ _) | (refine .inr ⟨rfl, _, ?_, rfl⟩; rfl) | exact rfl | exact Nat.zero_le _ | constructor)
    · have hge : ¬ (k : Int) < V.length := of_decide_eq_false h1
      conv => whnf
      rw [findI_none (fun j u hj => hno j u (by omega))]

theorem indexFuncB_fn (V : List Back) {f : FuncId} {c : Value} {p : Back → Bool} (hf : ∀ x, x ∈ V → Fn Tryz.prog f [.agg (backD x), .fp [.v c]] fun d => d = boolD (p x)) (hV : V.length ≤ 1000000) :
    Fn Tryz.prog 91 [rowsB V, .fn f [] [.fp [.v c]]] fun d => d = intD (findI p V) := by
  refine fnOf [] Tryz.func91 rfl (by kernel_rfl) (Nat.le_of_ble_eq_true rfl) ?_
  conv => whnf
  refine ⟨Nat, fun k => ⟨[(8, intD k), (7, intD V.length), (0, rowsB V), (1, .fn f [] [.fp [.v c]])], [], 0, ([], 0)⟩,
    fun k => k ≤ V.length ∧ ∀ (j : Nat) u, j < k → V[j]? = some u → p u = false, fun k => V.length - k, ⟨0, [], [], ?_, Nat.zero_le _, fun j u h => by omega⟩, ?_⟩
  · repeat' (first | exact trivial | exact .inl (DLe.refl _) | exact .inl (DLe.nil _ _) | (refine .inr ⟨rfl, _, ?_, rfl⟩; rfl) | exact rfl | exact Nat.zero_le _ | constructor)
  · rintro k ⟨hk, hno⟩
    conv => whnf
    refine Fork.intro (fun h1 => ?_) (fun h1 => ?_)
    · have hlt : (k : Int) < V.length := of_decide_eq_true h1
      conv => whnf
      refine ⟨rfl, ⟨by omega, hlt⟩, fun x hx => ?_⟩
      have hxk : V[k]? = some x := by simpa using hx
      conv => whnf
      refine CallVC.pure (hf x (List.mem_of_getElem? hxk)) rfl ?_
      rintro _ rfl
      conv => whnf
      refine Fork.intro (fun h2 => ?_) (fun h2 => ?_)
      · conv => whnf
        rw [findI_at hxk h2 hno]
      · conv => whnf
        rw [wrap_next (show k < V.length by omega) hV]
        refine ⟨k + 1, [], [], ?_, ⟨by omega, no_next hxk h2 hno⟩, by show V.length - (k + 1) < V.length - k; omega⟩
        repeat' (first | exact trivial | exact .inl (DLe.refl _) | exact .inl (DLe.nil _ _) | (refine .inr ⟨rfl, _, ?_, rfl⟩; rfl) | exact rfl | exact Nat.zero_le _ | constructor)
    · have hge : ¬ (k : Int) < V.length := of_decide_eq_false h1
      conv => whnf
      rw [findI_none (fun j u hj => hno j u (by omega))]

theorem backend1_fn (b : Back) {id : Int} : Fn Tryz.prog 121 [.agg (backD b), .fp [intD id]] fun d => d = boolD (decide (b.id = id)) := by
  refine fnOf [] Tryz.func121 rfl (by kernel_rfl) (Nat.le_of_ble_eq_true rfl) ?_
  conv => whnf

theorem backend_fn (V : List Vip) (B : List Back) (id : Int) (hB : B.length ≤ 16) : Fn Tryz.prog 107 [farmD V B, intD id] fun d => d = intD (findI (fun b => decide (b.id = id)) B) := by
  refine fnOf [] Tryz.func107 rfl (by kernel_rfl) (Nat.le_of_ble_eq_true rfl) ?_
  conv => whnf
  refine CallVC.snap (indexFuncB_fn B (c := .int .i64 id) (fun x _ => backend1_fn x) (by omega)) ?_
  rintro _ rfl
  refine ⟨rfl, ?_⟩
  conv => whnf

end Go.Proofs.YtooaeccmkgockaaGreatDoor.V
namespace Go.Proofs.YtooaeccmkgockaaGreatDoor.V
open Go.RowKit
attribute [local irreducible] Fn OpVC

theorem findI_cases {α : Type} (p : α → Bool) (L : List α) : (findI p L = -1 ∧ ∀ x, x ∈ L → p x = false) ∨ ∃ (k : Nat) (x : α), findI p L = k ∧ L[k]? = some x ∧ p x = true ∧ ∀ (j : Nat) u, j < k → L[j]? = some u → p u = false := by
  unfold findI
  cases h : L.findIdx? p with
  | none => exact .inl ⟨rfl, fun x hx => by have := List.findIdx?_eq_none_iff.1 h x hx; simpa using this⟩
  | some k =>
    obtain ⟨h1, h2, h3⟩ := List.findIdx?_eq_some_iff_getElem.1 h
    refine .inr ⟨k, _, rfl, List.getElem?_eq_getElem h1, h2, fun j u hj hu => ?_⟩
    have := h3 j hj
    rw [List.getElem?_eq_getElem (by omega)] at hu
    injection hu with hu
    subst hu
    simpa using this

section
variable {P : Program}
end
theorem snap_cut {k : Nat} {H : List (Nat × LO)} {id e n : Nat} {α : Type} {el : Nat} {enc : α → List D} {L : List α} (h : lget H id = some (.grow α el e enc L)) (hl : n ≤ L.length) : snapD (k + 1) H (.cut id n) = .rows α e enc (L.take n) := by
  simp only [snapD, h]
  rw [show Nat.ble n L.length = true from Nat.ble_eq_true_of_le hl]

end Go.Proofs.YtooaeccmkgockaaGreatDoor.V
