/-
  Farms: the program's looking. Conditions: short rows.
-/
import Derived.Test.YtghfefkmmobmgaaFx
namespace Go.Proofs.Ytghfefkmmobmgaa.V
open Go.RowKit
attribute [local irreducible] Fn CallVC OpVC

theorem like_fn (v : Vip) {i a p t m : Int} : Fn Try.prog 52 [.agg (vipD v), .agg [intD i, .v (.int .u32 a), .v (.int .u16 p), .v (.int .u8 t), intD m]] fun d => d = boolD (sameAt a p t v) := by
  refine fnOf [] Try.func52 rfl (by kernel_rfl) (Nat.le_of_ble_eq_true rfl) ?_
  conv => whnf
  repeat' (refine Fork.intro (fun _ => ?_) (fun _ => ?_) <;> conv => whnf)
  all_goals
    congr 2
    simp_all [sameAt]

/-- What stands first for which something is so. -/
def getAt {α : Type} (p : α → Bool) (L : List α) : Option α := match decide (findI p L < 0) with
  | true => none
  | false => L[(findI p L).toNat]?
theorem getAt_at {α : Type} {p : α → Bool} {L : List α} {k : Nat} {x : α} (hx : L[k]? = some x) (h : p x = true) (hno : ∀ (j : Nat) u, j < k → L[j]? = some u → p u = false) : getAt p L = some x := by
  unfold getAt
  rw [findI_at hx h hno, decide_eq_false (by omega : ¬ (k : Int) < 0)]
  exact hx
theorem getAt_none {α : Type} {p : α → Bool} {L : List α} (hno : ∀ (j : Nat) u, j < L.length → L[j]? = some u → p u = false) : getAt p L = none := by
  unfold getAt
  rw [findI_none hno]; rfl

def orVip : Option Vip → D
  | some x => .tup [.agg (vipD x), boolD true]
  | none => .tup [.agg (vipD ⟨0, 0, 0, 0, 0⟩), boolD false]
def orBack : Option Back → D
  | some x => .tup [.agg (backD x), boolD true]
  | none => .tup [.agg (backD ⟨0, 0, 0, 0, 0, false⟩), boolD false]

theorem vip_fn (V : List Vip) (B : List Back) (a p t : Int) (hV : V.length ≤ 4) : Fn Try.prog 24 [farmD V B, .v (.int .u32 a), .v (.int .u16 p), .v (.int .u8 t)] fun d => d = orVip (getAt (sameAt a p t) V) := by
  refine fnOf [] Try.func24 rfl (by kernel_rfl) (Nat.le_of_ble_eq_true rfl) ?_
  conv => whnf
  refine ⟨Nat, fun k => ⟨[(15, intD k), (14, intD V.length), (13, rowsV V), (9, boolD false), (8, .loc 1 0), (1, .v (.int .u32 a)), (2, .v (.int .u16 p)), (3, .v (.int .u8 t))], [(0, .cells 29 [rowsV V, rowsB B]), (1, .cells 45 [intD 0, .v (.int .u32 0), .v (.int .u16 0), .v (.int .u8 0), intD 0])], 2, ([], 0)⟩,
    fun k => k ≤ V.length ∧ ∀ (j : Nat) u, j < k → V[j]? = some u → sameAt a p t u = false, fun k => V.length - k, ⟨0, [], [], ?_, Nat.zero_le _, fun j u h => by omega⟩, ?_⟩
  · repeat' (first | exact trivial | exact .inl (DLe.refl _) | exact .inl (DLe.nil _ _) | (refine .inr ⟨rfl, _, ?_, rfl⟩; rfl) | exact rfl | exact Nat.zero_le _ | constructor)
  · rintro k ⟨hk, hno⟩
    conv => whnf
    refine Fork.intro (fun h1 => ?_) (fun h1 => ?_)
    · have hlt : (k : Int) < V.length := of_decide_eq_true h1
      conv => whnf
      refine ⟨rfl, ⟨by omega, hlt⟩, fun x hx => ?_⟩
      have hxk : V[k]? = some x := by simpa using hx
      conv => whnf
      refine CallVC.pure (like_fn x) rfl ?_
      rintro _ rfl
      conv => whnf
      refine Fork.intro (fun h2 => ?_) (fun h2 => ?_)
      · conv => whnf
        rw [getAt_at hxk h2 hno]
        rfl
      · conv => whnf
        rw [wrap_next (show k < 60 by omega) (by omega)]
        refine ⟨k + 1, [], [], ?_, ⟨by omega, no_next hxk h2 hno⟩, by show V.length - (k + 1) < V.length - k; omega⟩
        repeat' (first | exact trivial | exact .inl (DLe.refl _) | exact .inl (DLe.nil _ _) | (refine .inr ⟨rfl, _, ?_, rfl⟩; rfl) | exact rfl | exact Nat.zero_le _ | constructor)
    · have hge : ¬ (k : Int) < V.length := of_decide_eq_false h1
      conv => whnf
      rw [getAt_none (fun j u hj => hno j u (by omega))]
      rfl

theorem serves1_fn (v : Vip) {a : Int} : Fn Try.prog 62 [.agg (vipD v), .fp [.v (.int .u32 a)]] fun d => d = boolD (decide (v.addr = a)) := by
  refine fnOf [] Try.func62 rfl (by kernel_rfl) (Nat.le_of_ble_eq_true rfl) ?_
  conv => whnf

theorem indexFuncV_fn (V : List Vip) {f : FuncId} {c : Value} {p : Vip → Bool} (hf : ∀ x, x ∈ V → Fn Try.prog f [.agg (vipD x), .fp [.v c]] fun d => d = boolD (p x)) (hV : V.length ≤ 1000000) :
    Fn Try.prog 81 [rowsV V, .fn f [] [.fp [.v c]]] fun d => d = intD (findI p V) := by
  refine fnOf [] Try.func81 rfl (by kernel_rfl) (Nat.le_of_ble_eq_true rfl) ?_
  conv => whnf
  refine ⟨Nat, fun k => ⟨[(8, intD k), (7, intD V.length), (0, rowsV V), (1, .fn f [] [.fp [.v c]])], [], 0, ([], 0)⟩,
    fun k => k ≤ V.length ∧ ∀ (j : Nat) u, j < k → V[j]? = some u → p u = false, fun k => V.length - k, ⟨0, [], [], ?_, Nat.zero_le _, fun j u h => by omega⟩, ?_⟩
  · repeat' (first | exact trivial | exact .inl (DLe.refl _) | exact .inl (DLe.nil _ _) | (refine .inr ⟨rfl, _, ?_, rfl⟩; rfl) | exact rfl | exact Nat.zero_le _ | constructor)
  · rintro k ⟨hk, hno⟩
    conv => whnf
    refine Fork.intro (fun h1 => ?_) (fun h1 => ?_)
    · have hlt : (k : Int) < V.length := of_decide_eq_true h1
      conv => whnf
      refine ⟨rfl, ⟨by omega, hlt⟩, fun x hx => ?_⟩
      have hxk : V[k]? = some x := by simpa using hx
      conv => whnf
      refine CallVC.pure (hf x (List.mem_of_getElem? hxk)) rfl ?_
      rintro _ rfl
      conv => whnf
      refine Fork.intro (fun h2 => ?_) (fun h2 => ?_)
      · conv => whnf
        rw [findI_at hxk h2 hno]
      · conv => whnf
        rw [wrap_next (show k < V.length by omega) hV]
        refine ⟨k + 1, [], [], ?_, ⟨by omega, no_next hxk h2 hno⟩, by show V.length - (k + 1) < V.length - k; omega⟩
        repeat' (first | exact trivial | exact .inl (DLe.refl _) | exact .inl (DLe.nil _ _) | (refine .inr ⟨rfl, _, ?_, rfl⟩; rfl) | exact rfl | exact Nat.zero_le _ | constructor)
    · have hge : ¬ (k : Int) < V.length := of_decide_eq_false h1
      conv => whnf
      rw [findI_none (fun j u hj => hno j u (by omega))]

theorem indexFuncB_fn (V : List Back) {f : FuncId} {c : Value} {p : Back → Bool} (hf : ∀ x, x ∈ V → Fn Try.prog f [.agg (backD x), .fp [.v c]] fun d => d = boolD (p x)) (hV : V.length ≤ 1000000) :
    Fn Try.prog 83 [rowsB V, .fn f [] [.fp [.v c]]] fun d => d = intD (findI p V) := by
  refine fnOf [] Try.func83 rfl (by kernel_rfl) (Nat.le_of_ble_eq_true rfl) ?_
  conv => whnf
  refine ⟨Nat, fun k => ⟨[(8, intD k), (7, intD V.length), (0, rowsB V), (1, .fn f [] [.fp [.v c]])], [], 0, ([], 0)⟩,
    fun k => k ≤ V.length ∧ ∀ (j : Nat) u, j < k → V[j]? = some u → p u = false, fun k => V.length - k, ⟨0, [], [], ?_, Nat.zero_le _, fun j u h => by omega⟩, ?_⟩
  · repeat' (first | exact trivial | exact .inl (DLe.refl _) | exact .inl (DLe.nil _ _) | (refine .inr ⟨rfl, _, ?_, rfl⟩; rfl) | exact rfl | exact Nat.zero_le _ | constructor)
  · rintro k ⟨hk, hno⟩
    conv => whnf
    refine Fork.intro (fun h1 => ?_) (fun h1 => ?_)
    · have hlt : (k : Int) < V.length := of_decide_eq_true h1
      conv => whnf
      refine ⟨rfl, ⟨by omega, hlt⟩, fun x hx => ?_⟩
      have hxk : V[k]? = some x := by simpa using hx
      conv => whnf
      refine CallVC.pure (hf x (List.mem_of_getElem? hxk)) rfl ?_
      rintro _ rfl
      conv => whnf
      refine Fork.intro (fun h2 => ?_) (fun h2 => ?_)
      · conv => whnf
        rw [findI_at hxk h2 hno]
      · conv => whnf
        rw [wrap_next (show k < V.length by omega) hV]
        refine ⟨k + 1, [], [], ?_, ⟨by omega, no_next hxk h2 hno⟩, by show V.length - (k + 1) < V.length - k; omega⟩
        repeat' (first | exact trivial | exact .inl (DLe.refl _) | exact .inl (DLe.nil _ _) | (refine .inr ⟨rfl, _, ?_, rfl⟩; rfl) | exact rfl | exact Nat.zero_le _ | constructor)
    · have hge : ¬ (k : Int) < V.length := of_decide_eq_false h1
      conv => whnf
      rw [findI_none (fun j u hj => hno j u (by omega))]

theorem containsFuncV_fn (V : List Vip) {f : FuncId} {c : Value} {p : Vip → Bool} (hf : ∀ x, x ∈ V → Fn Try.prog f [.agg (vipD x), .fp [.v c]] fun d => d = boolD (p x)) (hV : V.length ≤ 1000000) :
    Fn Try.prog 50 [rowsV V, .fn f [] [.fp [.v c]]] fun d => d = boolD (decide (findI p V ≥ 0)) := by
  refine fnOf [] Try.func50 rfl (by kernel_rfl) (Nat.le_of_ble_eq_true rfl) ?_
  conv => whnf
  refine CallVC.pure (indexFuncV_fn V hf hV) rfl ?_
  rintro _ rfl
  conv => whnf

theorem serves_fn (V : List Vip) (B : List Back) (a : Int) (hV : V.length ≤ 4) : Fn Try.prog 28 [farmD V B, .v (.int .u32 a)] fun d => d = boolD (decide (findI (fun v => decide (v.addr = a)) V ≥ 0)) := by
  refine fnOf [] Try.func28 rfl (by kernel_rfl) (Nat.le_of_ble_eq_true rfl) ?_
  conv => whnf
  refine CallVC.snap (containsFuncV_fn V (c := .int .u32 a) (fun x _ => serves1_fn x) (by omega)) ?_
  rintro _ rfl
  refine ⟨rfl, ?_⟩
  conv => whnf

theorem backend1_fn (b : Back) {id : Int} : Fn Try.prog 86 [.agg (backD b), .fp [intD id]] fun d => d = boolD (decide (b.id = id)) := by
  refine fnOf [] Try.func86 rfl (by kernel_rfl) (Nat.le_of_ble_eq_true rfl) ?_
  conv => whnf

theorem backend_fn (V : List Vip) (B : List Back) (id : Int) (hB : B.length ≤ 16) : Fn Try.prog 61 [farmD V B, intD id] fun d => d = intD (findI (fun b => decide (b.id = id)) B) := by
  refine fnOf [] Try.func61 rfl (by kernel_rfl) (Nat.le_of_ble_eq_true rfl) ?_
  conv => whnf
  refine CallVC.snap (indexFuncB_fn B (c := .int .i64 id) (fun x _ => backend1_fn x) (by omega)) ?_
  rintro _ rfl
  refine ⟨rfl, ?_⟩
  conv => whnf

theorem get_fn (V : List Vip) (B : List Back) (id : Int) (hB : B.length ≤ 16) : Fn Try.prog 26 [farmD V B, intD id] fun d => d = orBack (getAt (fun b => decide (b.id = id)) B) := by
  refine fnOf [] Try.func26 rfl (by kernel_rfl) (Nat.le_of_ble_eq_true rfl) ?_
  conv => whnf
  refine CallVC.pure (backend_fn V B id hB) rfl ?_
  rintro _ rfl
  conv => whnf
  refine Fork.intro (fun h1 => ?_) (fun h1 => ?_)
  · conv => whnf
    unfold getAt
    rw [h1]
    rfl
  · conv => whnf
    refine ⟨rfl, findI_lt h1, fun x hx => ?_⟩
    conv => whnf
    unfold getAt
    rw [h1, hx]
    rfl
end Go.Proofs.Ytghfefkmmobmgaa.V
