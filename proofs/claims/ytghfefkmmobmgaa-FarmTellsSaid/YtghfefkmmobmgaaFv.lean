/-
  Farms as data; the reference's looking and its checks. Condition: numbers are of their types.
-/
import Derived.Test.YtghfefkmmobmgaaTt
import Derived.IntWalk
namespace Go.Proofs.Ytghfefkmmobmgaa.V
open Go.RowKit

structure Vip where
  id : Int
  addr : Int
  port : Int
  proto : Int
  mode : Int
structure Back where
  id : Int
  vip : Int
  addr : Int
  weight : Int
  life : Int
  up : Bool
def vipD (v : Vip) : List D := [.v (.int .i64 v.id), .v (.int .u32 v.addr), .v (.int .u16 v.port), .v (.int .u8 v.proto), .v (.int .i64 v.mode)]
def backD (b : Back) : List D := [.v (.int .i64 b.id), .v (.int .i64 b.vip), .v (.int .u32 b.addr), .v (.int .i64 b.weight), .v (.int .i64 b.life), .v (.bool b.up)]
abbrev rowsV (V : List Vip) : D := .rows Vip 5 vipD V
abbrev rowsB (B : List Back) : D := .rows Back 6 backD B
abbrev farmD (V : List Vip) (B : List Back) : D := .agg [rowsV V, rowsB B]
abbrev intD (n : Int) : D := .v (.int .i64 n)
abbrev boolD (b : Bool) : D := .v (.bool b)

structure Vip.ok (v : Vip) : Prop where
  id : -9223372036854775808 ≤ v.id ∧ v.id ≤ 9223372036854775807
  addr : 0 ≤ v.addr ∧ v.addr ≤ 4294967295
  port : 0 ≤ v.port ∧ v.port ≤ 65535
  proto : 0 ≤ v.proto ∧ v.proto ≤ 255
  mode : -9223372036854775808 ≤ v.mode ∧ v.mode ≤ 9223372036854775807
structure Back.ok (b : Back) : Prop where
  id : -9223372036854775808 ≤ b.id ∧ b.id ≤ 9223372036854775807
  addr : 0 ≤ b.addr ∧ b.addr ≤ 4294967295

theorem wrap_next {k n : Nat} (h : k < n) (hn : n ≤ 1000000) : IntKind.i64.wrap ((k : Int) + 1) = ((k + 1 : Nat) : Int) := by
  rw [IntWalk.i64_in _ (by omega)]; omega
theorem nat_toNat (k : Nat) : (k : Int).toNat = k := by omega

/-- Where the first one stands for which something is so; below 0: nowhere. -/
def findI {α : Type} (p : α → Bool) (L : List α) : Int := match L.findIdx? p with
  | some i => (i : Int)
  | none => -1
theorem findI_at {α : Type} {p : α → Bool} {L : List α} {k : Nat} {x : α} (hx : L[k]? = some x) (h : p x = true) (hno : ∀ (j : Nat) u, j < k → L[j]? = some u → p u = false) : findI p L = k := by
  unfold findI
  have : L.findIdx? p = some k := by
    rw [List.findIdx?_eq_some_iff_getElem]
    obtain ⟨hk, rfl⟩ := List.getElem?_eq_some_iff.1 hx
    exact ⟨hk, h, fun j hj => by simpa using hno j _ hj (List.getElem?_eq_getElem (by omega))⟩
  rw [this]
theorem findI_none {α : Type} {p : α → Bool} {L : List α} (hno : ∀ (j : Nat) u, j < L.length → L[j]? = some u → p u = false) : findI p L = -1 := by
  unfold findI
  have : L.findIdx? p = none := by
    rw [List.findIdx?_eq_none_iff]
    intro x hx
    obtain ⟨j, hj, rfl⟩ := List.mem_iff_getElem.1 hx
    exact hno j _ hj (List.getElem?_eq_getElem hj)
  rw [this]
theorem no_next {α : Type} {p : α → Bool} {L : List α} {k : Nat} {x : α} (hx : L[k]? = some x) (h : p x = false) (hno : ∀ (j : Nat) u, j < k → L[j]? = some u → p u = false) : ∀ (j : Nat) u, j < k + 1 → L[j]? = some u → p u = false := by
  intro j u hj hu
  rcases Nat.lt_succ_iff_lt_or_eq.1 hj with h1 | rfl
  · exact hno j u h1 hu
  · rw [hx] at hu; injection hu with hu; subst hu; exact h

theorem vipAt_fn (V : List Vip) (B : List Back) (id : Int) (hV : V.length ≤ 1000000) : Fn Try.prog 43 [farmD V B, intD id] fun d => d = intD (findI (fun v => decide (v.id = id)) V) := by
  refine fnOf [] Try.func43 rfl (by kernel_rfl) (Nat.le_of_ble_eq_true rfl) ?_
  conv => whnf
  refine ⟨Nat, fun k => ⟨[(5, intD k), (2, .loc 0 0), (1, intD id)], [(0, .cells 29 [rowsV V, rowsB B])], 1, ([], 0)⟩,
    fun k => k ≤ V.length ∧ ∀ (j : Nat) u, j < k → V[j]? = some u → decide (u.id = id) = false, fun k => V.length - k, ⟨0, [], [], ?_, Nat.zero_le _, fun j u h => by omega⟩, ?_⟩
  · repeat' (first | exact trivial | exact .inl (DLe.refl _) | exact .inl (DLe.nil _ _) | (refine .inr ⟨rfl, _, ?_, rfl⟩; rfl) | exact rfl | exact Nat.zero_le _ | constructor)
  · rintro k ⟨hk, hno⟩
    conv => whnf
    refine Fork.intro (fun hfk => ?_) (fun hfk => ?_)
    · have hlt : (k : Int) < V.length := of_decide_eq_true hfk
      conv => whnf
      refine ⟨rfl, ⟨by omega, by omega⟩, fun x hx => ?_⟩
      rw [nat_toNat] at hx
      conv => whnf
      refine Fork.intro (fun hfk => ?_) (fun hfk => ?_)
      · conv => whnf
        rw [findI_at hx hfk hno]
      · conv => whnf
        rw [wrap_next (show k < V.length by omega) hV]
        refine ⟨k + 1, [], [], ?_, ⟨by show k + 1 ≤ _; omega, no_next hx hfk hno⟩, by show V.length - (k + 1) < V.length - k; omega⟩
        repeat' (first | exact trivial | exact .inl (DLe.refl _) | exact .inl (DLe.nil _ _) | (refine .inr ⟨rfl, _, ?_, rfl⟩; rfl) | exact rfl | exact Nat.zero_le _ | constructor)
    · have hge : ¬ (k : Int) < V.length := of_decide_eq_false hfk
      conv => whnf
      rw [findI_none (fun j u hj hu => hno j u (by omega) hu)]

theorem backAt_fn (V : List Vip) (B : List Back) (id : Int) (hB : B.length ≤ 1000000) : Fn Try.prog 27 [farmD V B, intD id] fun d => d = intD (findI (fun b => decide (b.id = id)) B) := by
  refine fnOf [] Try.func27 rfl (by kernel_rfl) (Nat.le_of_ble_eq_true rfl) ?_
  conv => whnf
  refine ⟨Nat, fun k => ⟨[(5, intD k), (2, .loc 0 0), (1, intD id)], [(0, .cells 29 [rowsV V, rowsB B])], 1, ([], 0)⟩,
    fun k => k ≤ B.length ∧ ∀ (j : Nat) u, j < k → B[j]? = some u → decide (u.id = id) = false, fun k => B.length - k, ⟨0, [], [], ?_, Nat.zero_le _, fun j u h => by omega⟩, ?_⟩
  · repeat' (first | exact trivial | exact .inl (DLe.refl _) | exact .inl (DLe.nil _ _) | (refine .inr ⟨rfl, _, ?_, rfl⟩; rfl) | exact rfl | exact Nat.zero_le _ | constructor)
  · rintro k ⟨hk, hno⟩
    conv => whnf
    refine Fork.intro (fun hfk => ?_) (fun hfk => ?_)
    · have hlt : (k : Int) < B.length := of_decide_eq_true hfk
      conv => whnf
      refine ⟨rfl, ⟨by omega, by omega⟩, fun x hx => ?_⟩
      rw [nat_toNat] at hx
      conv => whnf
      refine Fork.intro (fun hfk => ?_) (fun hfk => ?_)
      · conv => whnf
        rw [findI_at hx hfk hno]
      · conv => whnf
        rw [wrap_next (show k < B.length by omega) hB]
        refine ⟨k + 1, [], [], ?_, ⟨by show k + 1 ≤ _; omega, no_next hx hfk hno⟩, by show B.length - (k + 1) < B.length - k; omega⟩
        repeat' (first | exact trivial | exact .inl (DLe.refl _) | exact .inl (DLe.nil _ _) | (refine .inr ⟨rfl, _, ?_, rfl⟩; rfl) | exact rfl | exact Nat.zero_le _ | constructor)
    · have hge : ¬ (k : Int) < B.length := of_decide_eq_false hfk
      conv => whnf
      rw [findI_none (fun j u hj hu => hno j u (by omega) hu)]

def sameAt (a p t : Int) (v : Vip) : Bool := decide (v.addr = a) && (decide (v.port = p) && decide (v.proto = t))

theorem where_fn (V : List Vip) (B : List Back) (a p t : Int) (hV : V.length ≤ 1000000) : Fn Try.prog 25 [farmD V B, .v (.int .u32 a), .v (.int .u16 p), .v (.int .u8 t)] fun d => d = intD (findI (sameAt a p t) V) := by
  refine fnOf [] Try.func25 rfl (by kernel_rfl) (Nat.le_of_ble_eq_true rfl) ?_
  conv => whnf
  refine ⟨Nat, fun k => ⟨[(9, intD k), (4, .loc 0 0), (1, .v (.int .u32 a)), (2, .v (.int .u16 p)), (3, .v (.int .u8 t))], [(0, .cells 29 [rowsV V, rowsB B])], 1, ([], 0)⟩,
    fun k => k ≤ V.length ∧ ∀ (j : Nat) u, j < k → V[j]? = some u → sameAt a p t u = false, fun k => V.length - k, ⟨0, [], [], ?_, Nat.zero_le _, fun j u h => by omega⟩, ?_⟩
  · repeat' (first | exact trivial | exact .inl (DLe.refl _) | exact .inl (DLe.nil _ _) | (refine .inr ⟨rfl, _, ?_, rfl⟩; rfl) | exact rfl | exact Nat.zero_le _ | constructor)
  · rintro k ⟨hk, hno⟩
    conv => whnf
    refine Fork.intro (fun hfk => ?_) (fun hfk => ?_)
    · have hlt : (k : Int) < V.length := of_decide_eq_true hfk
      conv => whnf
      refine ⟨rfl, ⟨by omega, by omega⟩, fun x hx => ?_⟩
      rw [nat_toNat] at hx
      have step : sameAt a p t x = false → ∀ (j : Nat) u, j < k + 1 → V[j]? = some u → sameAt a p t u = false := fun h => no_next hx h hno
      have hxx := hx
      conv => whnf
      refine Fork.intro (fun h1 => ?_) (fun h1 => ?_)
      · conv => whnf
        refine ⟨rfl, ⟨by omega, by omega⟩, fun x' hx' => ?_⟩
        rw [nat_toNat, hx] at hx'
        injection hx' with hx'; subst hx'
        conv => whnf
        refine Fork.intro (fun h2 => ?_) (fun h2 => ?_)
        · conv => whnf
          refine ⟨rfl, ⟨by omega, by omega⟩, fun x' hx' => ?_⟩
          rw [nat_toNat, hx] at hx'
          injection hx' with hx'; subst hx'
          conv => whnf
          refine Fork.intro (fun h3 => ?_) (fun h3 => ?_)
          · conv => whnf
            rw [findI_at hx (by simp only [sameAt, h1, h2, h3, Bool.and_self]) hno]
          · conv => whnf
            rw [wrap_next (show k < V.length by omega) hV]
            refine ⟨k + 1, [], [], ?_, ⟨by show k + 1 ≤ _; omega, step (by simp only [sameAt, h3, Bool.and_false])⟩, by show V.length - (k + 1) < V.length - k; omega⟩
            repeat' (first | exact trivial | exact .inl (DLe.refl _) | exact .inl (DLe.nil _ _) | (refine .inr ⟨rfl, _, ?_, rfl⟩; rfl) | exact rfl | exact Nat.zero_le _ | constructor)
        · conv => whnf
          rw [wrap_next (show k < V.length by omega) hV]
          refine ⟨k + 1, [], [], ?_, ⟨by show k + 1 ≤ _; omega, step (by simp only [sameAt, h2, Bool.false_and, Bool.and_false])⟩, by show V.length - (k + 1) < V.length - k; omega⟩
          repeat' (first | exact trivial | exact .inl (DLe.refl _) | exact .inl (DLe.nil _ _) | (refine .inr ⟨rfl, _, ?_, rfl⟩; rfl) | exact rfl | exact Nat.zero_le _ | constructor)
      · conv => whnf
        rw [wrap_next (show k < V.length by omega) hV]
        refine ⟨k + 1, [], [], ?_, ⟨by show k + 1 ≤ _; omega, step (by simp only [sameAt, h1, Bool.false_and])⟩, by show V.length - (k + 1) < V.length - k; omega⟩
        repeat' (first | exact trivial | exact .inl (DLe.refl _) | exact .inl (DLe.nil _ _) | (refine .inr ⟨rfl, _, ?_, rfl⟩; rfl) | exact rfl | exact Nat.zero_le _ | constructor)
    · have hge : ¬ (k : Int) < V.length := of_decide_eq_false hfk
      conv => whnf
      rw [findI_none (fun j u hj hu => hno j u (by omega) hu)]

def specB (a : Int) : Bool := decide (a = 0) || decide (a / 16777216 = 127) || decide (224 ≤ a / 16777216)
theorem u32_in {a : Int} (h0 : 0 ≤ a) (h1 : a ≤ 4294967295) : IntKind.u32.wrap a = a := by
  have : IntKind.u32.wrap a = a % 4294967296 := by simp [IntKind.wrap, IntKind.bits, IntKind.signed]
  rw [this]; omega

theorem rspecial_fn (a : Int) (h0 : 0 ≤ a) (h1 : a ≤ 4294967295) : Fn Try.prog 85 [.v (.int .u32 a)] fun d => d = boolD (specB a) := by
  refine fnOf [] Try.func85 rfl (by kernel_rfl) (Nat.le_of_ble_eq_true rfl) ?_
  have hq : IntKind.u32.wrap (a.tdiv 16777216) = a / 16777216 := by
    rw [Int.tdiv_eq_ediv_of_nonneg h0, u32_in (by omega) (by omega)]
  conv => whnf
  refine ⟨by omega, ?_⟩
  repeat' (first | (refine Fork.intro (fun _ => ?_) (fun _ => ?_) <;> conv => whnf))
  all_goals
    congr 2
    simp only [hq] at *
    simp_all [specB]
    try omega

def goodV (v : Vip) : Bool := decide (1 ≤ v.id) && decide (v.id ≤ 99) && !specB v.addr && decide (v.port ≠ 0) && ((decide (v.mode = 1) && (decide (v.proto = 6) || decide (v.proto = 17))) || (decide (v.mode = 2) && decide (v.proto = 6)))
def goodB (b : Back) : Bool := decide (1 ≤ b.id) && decide (b.id ≤ 999) && !specB b.addr && decide (1 ≤ b.weight) && decide (b.weight ≤ 8) && decide (1 ≤ b.life) && decide (b.life ≤ 2)

theorem goodVip_fn (v : Vip) (hv : v.ok) : Fn Try.prog 58 [.agg (vipD v)] fun d => d = boolD (goodV v) := by
  refine fnOf [] Try.func58 rfl (by kernel_rfl) (Nat.le_of_ble_eq_true rfl) ?_
  conv => whnf
  repeat' (first
    | (refine Fork.intro (fun _ => ?_) (fun _ => ?_) <;> conv => whnf)
    | (refine CallVC.pure (rspecial_fn _ hv.addr.1 hv.addr.2) rfl ?_; rintro _ rfl; conv => whnf))
  all_goals
    congr 2
    simp_all [goodV]
    try omega

theorem goodBackend_fn (b : Back) (hb : b.ok) : Fn Try.prog 59 [.agg (backD b)] fun d => d = boolD (goodB b) := by
  refine fnOf [] Try.func59 rfl (by kernel_rfl) (Nat.le_of_ble_eq_true rfl) ?_
  conv => whnf
  repeat' (first
    | (refine Fork.intro (fun _ => ?_) (fun _ => ?_) <;> conv => whnf)
    | (refine CallVC.pure (rspecial_fn _ hb.addr.1 hb.addr.2) rfl ?_; rintro _ rfl; conv => whnf))
  all_goals
    congr 2
    simp_all [goodB]
    try omega
end Go.Proofs.Ytghfefkmmobmgaa.V
