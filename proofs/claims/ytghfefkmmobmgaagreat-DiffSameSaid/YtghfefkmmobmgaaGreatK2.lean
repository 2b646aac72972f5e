/-
  The orders that make a farm into another one: what the program looks for. Conditions: short rows.
  The orders that make a farm into another one: the program's rows of orders. Conditions: short rows.
  The orders that make a farm into another one: the program's answer. Conditions: short rows, numbers of their types.
  The orders that make a farm into another one: the program's answer. Conditions: short rows, numbers of their types.
  The orders that make a farm into another one: the document's answer. Conditions: short rows, numbers of their types. Printed by gen_gf.py.
  Which farms are alike; the law's body. Conditions: short rows, numbers of their types.
-/
import Derived.Test.YtghfefkmmobmgaaGreatFdK
namespace Go.Proofs.YtghfefkmmobmgaaGreat.V
open Go.RowKit
attribute [local irreducible] Fn CallVC OpVC

theorem firstV_fn (V : List Vip) {f : FuncId} {c : Value} {p : Vip → Bool} (hf : ∀ x, x ∈ V → Fn Tryz.prog f [.agg (vipD x), .fp [.v c]] fun d => d = boolD (p x)) (hV : V.length ≤ 1000000) :
    Fn Tryz.prog 50 [rowsV V, .fn f [] [.fp [.v c]]] fun d => d = orVip (getAt p V) := by
  refine fnOf [] Tryz.func50 rfl (by kernel_rfl) (Nat.le_of_ble_eq_true rfl) ?_
  conv => whnf
  refine ⟨Nat, fun k => ⟨[(11, intD k), (10, intD V.length), (9, rowsV V), (4, .loc 0 0), (1, .fn f [] [.fp [.v c]])], [(0, .cells 48 [intD 0, .v (.int .u32 0), .v (.int .u16 0), .v (.int .u8 0), intD 0])], 1, ([], 0)⟩,
    fun k => k ≤ V.length ∧ ∀ (j : Nat) u, j < k → V[j]? = some u → p u = false, fun k => V.length - k, ⟨0, [], [], ?_, Nat.zero_le _, fun j u h => by omega⟩, ?_⟩
  · repeat' (first | exact trivial | exact .inl (DLe.refl _) | exact .inl (DLe.nil _ _) | (refine .inr ⟨rfl, _, ?_, rfl⟩; rfl) | exact rfl | exact Nat.zero_le _ | constructor)
  · rintro k ⟨hk, hno⟩
    conv => whnf
    refine Fork.intro (fun h1 => ?_) (fun h1 => ?_)
    · have hlt : (k : Int) < V.length := of_decide_eq_true h1
      conv => whnf
      refine ⟨rfl, ⟨by omega, hlt⟩, fun x hx => ?_⟩
      have hxk : V[k]? = some x := by simpa using hx
      conv => whnf
      refine CallVC.pure (hf x (List.mem_of_getElem? hxk)) rfl ?_
      rintro _ rfl
      conv => whnf
      refine Fork.intro (fun h2 => ?_) (fun h2 => ?_)
      · conv => whnf
        rw [getAt_at hxk h2 hno]
        rfl
      · conv => whnf
        rw [wrap_next (show k < V.length by omega) hV]
        refine ⟨k + 1, [], [], ?_, ⟨by omega, no_next hxk h2 hno⟩, by show V.length - (k + 1) < V.length - k; omega⟩
        repeat' (first | exact trivial | exact .inl (DLe.refl _) | exact .inl (DLe.nil _ _) | (refine .inr ⟨rfl, _, ?_, rfl⟩; rfl) | exact rfl | exact Nat.zero_le _ | constructor)
    · have hge : ¬ (k : Int) < V.length := of_decide_eq_false h1
      conv => whnf
      rw [getAt_none (fun j u hj => hno j u (by omega))]
      rfl

theorem firstB_fn (V : List Back) {f : FuncId} {c : Value} {p : Back → Bool} (hf : ∀ x, x ∈ V → Fn Tryz.prog f [.agg (backD x), .fp [.v c]] fun d => d = boolD (p x)) (hV : V.length ≤ 1000000) :
    Fn Tryz.prog 52 [rowsB V, .fn f [] [.fp [.v c]]] fun d => d = orBack (getAt p V) := by
  refine fnOf [] Tryz.func52 rfl (by kernel_rfl) (Nat.le_of_ble_eq_true rfl) ?_
  conv => whnf
  refine ⟨Nat, fun k => ⟨[(11, intD k), (10, intD V.length), (9, rowsB V), (4, .loc 0 0), (1, .fn f [] [.fp [.v c]])], [(0, .cells 50 [intD 0, intD 0, .v (.int .u32 0), intD 0, intD 0, boolD false])], 1, ([], 0)⟩,
    fun k => k ≤ V.length ∧ ∀ (j : Nat) u, j < k → V[j]? = some u → p u = false, fun k => V.length - k, ⟨0, [], [], ?_, Nat.zero_le _, fun j u h => by omega⟩, ?_⟩
  · repeat' (first | exact trivial | exact .inl (DLe.refl _) | exact .inl (DLe.nil _ _) | (refine .inr ⟨rfl, _, ?_, rfl⟩; rfl) | exact rfl | exact Nat.zero_le _ | constructor)
  · rintro k ⟨hk, hno⟩
    conv => whnf
    refine Fork.intro (fun h1 => ?_) (fun h1 => ?_)
    · have hlt : (k : Int) < V.length := of_decide_eq_true h1
      conv => whnf
      refine ⟨rfl, ⟨by omega, hlt⟩, fun x hx => ?_⟩
      have hxk : V[k]? = some x := by simpa using hx
      conv => whnf
      refine CallVC.pure (hf x (List.mem_of_getElem? hxk)) rfl ?_
      rintro _ rfl
      conv => whnf
      refine Fork.intro (fun h2 => ?_) (fun h2 => ?_)
      · conv => whnf
        rw [getAt_at hxk h2 hno]
        rfl
      · conv => whnf
        rw [wrap_next (show k < V.length by omega) hV]
        refine ⟨k + 1, [], [], ?_, ⟨by omega, no_next hxk h2 hno⟩, by show V.length - (k + 1) < V.length - k; omega⟩
        repeat' (first | exact trivial | exact .inl (DLe.refl _) | exact .inl (DLe.nil _ _) | (refine .inr ⟨rfl, _, ?_, rfl⟩; rfl) | exact rfl | exact Nat.zero_le _ | constructor)
    · have hge : ¬ (k : Int) < V.length := of_decide_eq_false h1
      conv => whnf
      rw [getAt_none (fun j u hj => hno j u (by omega))]
      rfl

theorem dvip1_fn (v : Vip) {id : Int} : Fn Tryz.prog 51 [.agg (vipD v), .fp [intD id]] fun d => d = boolD (decide (v.id = id)) := by
  refine fnOf [] Tryz.func51 rfl (by kernel_rfl) (Nat.le_of_ble_eq_true rfl) ?_
  conv => whnf
theorem dback1_fn (v : Back) {id : Int} : Fn Tryz.prog 53 [.agg (backD v), .fp [intD id]] fun d => d = boolD (decide (v.id = id)) := by
  refine fnOf [] Tryz.func53 rfl (by kernel_rfl) (Nat.le_of_ble_eq_true rfl) ?_
  conv => whnf
abbrev atV (id : Int) (V : List Vip) : Option Vip := getAt (fun v : Vip => decide (v.id = id)) V
abbrev atB (id : Int) (B : List Back) : Option Back := getAt (fun b : Back => decide (b.id = id)) B
theorem flat_orVip (o : Option Vip) : flatD 4 (orVip o) = true := by cases o <;> rfl
theorem flat_orBack (o : Option Back) : flatD 4 (orBack o) = true := by cases o <;> rfl

theorem dvip_fn (V : List Vip) (B : List Back) (id : Int) (hV : V.length ≤ 1000000) : Fn Tryz.prog 35 [farmD V B, intD id] fun d => d = orVip (atV id V) := by
  refine fnOf [] Tryz.func35 rfl (by kernel_rfl) (Nat.le_of_ble_eq_true rfl) ?_
  conv => whnf
  refine CallVC.snap (firstV_fn V (c := .int .i64 id) (fun x _ => dvip1_fn x) hV) ?_
  rintro _ rfl
  refine ⟨flat_orVip _, ?_⟩
  unfold atV
  cases getAt (fun v : Vip => decide (v.id = id)) V with
  | none =>
    conv => whnf
    rfl
  | some x =>
    conv => whnf
    rfl
theorem dback_fn (V : List Vip) (B : List Back) (id : Int) (hB : B.length ≤ 1000000) : Fn Tryz.prog 38 [farmD V B, intD id] fun d => d = orBack (atB id B) := by
  refine fnOf [] Tryz.func38 rfl (by kernel_rfl) (Nat.le_of_ble_eq_true rfl) ?_
  conv => whnf
  refine CallVC.snap (firstB_fn B (c := .int .i64 id) (fun x _ => dback1_fn x) hB) ?_
  rintro _ rfl
  refine ⟨flat_orBack _, ?_⟩
  unfold atB
  cases getAt (fun b : Back => decide (b.id = id)) B with
  | none =>
    conv => whnf
    rfl
  | some x =>
    conv => whnf
    rfl

/-- Is a Vip kept? -/
def kept1 (W : List Vip) (v : Vip) : Bool := match atV v.id W with
  | none => false
  | some w => decide (w.addr = v.addr) && (decide (w.port = v.port) && decide (w.proto = v.proto))
theorem atV_id {id : Int} {V : List Vip} {w : Vip} (h : atV id V = some w) : w.id = id := by
  unfold atV at h
  rcases found (fun v : Vip => decide (v.id = id)) V with ⟨_, h2⟩ | ⟨k, x, h1, h2, h3⟩
  · rw [h2] at h; cases h
  · rw [h2] at h
    injection h with h; subst h
    rcases findI_cases (fun v : Vip => decide (v.id = id)) V with ⟨h4, _⟩ | ⟨k', y, h4, h5, h6, _⟩
    · rw [h4] at h1; omega
    · rw [h4] at h1
      have : k' = k := by omega
      subst this
      rw [h3] at h5; injection h5 with h5; subst h5
      exact of_decide_eq_true h6
theorem atB_id {id : Int} {V : List Back} {w : Back} (h : atB id V = some w) : w.id = id := by
  unfold atB at h
  rcases found (fun v : Back => decide (v.id = id)) V with ⟨_, h2⟩ | ⟨k, x, h1, h2, h3⟩
  · rw [h2] at h; cases h
  · rw [h2] at h
    injection h with h; subst h
    rcases findI_cases (fun v : Back => decide (v.id = id)) V with ⟨h4, _⟩ | ⟨k', y, h4, h5, h6, _⟩
    · rw [h4] at h1; omega
    · rw [h4] at h1
      have : k' = k := by omega
      subst this
      rw [h3] at h5; injection h5 with h5; subst h5
      exact of_decide_eq_true h6

theorem all_next {α : Type} {p : α → Bool} {L : List α} {k : Nat} {x : α} (hx : L[k]? = some x) (h : p x = true) (hno : ∀ (j : Nat) u, j < k → L[j]? = some u → p u = true) : ∀ (j : Nat) u, j < k + 1 → L[j]? = some u → p u = true := by
  intro j u hj hu
  rcases Nat.lt_succ_iff_lt_or_eq.1 hj with h1 | rfl
  · exact hno j u h1 hu
  · rw [hx] at hu; injection hu with hu; subst hu; exact h
theorem all_true {α : Type} {p : α → Bool} {L : List α} (hno : ∀ (j : Nat) u, j < L.length → L[j]? = some u → p u = true) : L.all p = true := by
  rw [List.all_eq_true]
  intro x hx
  obtain ⟨j, hj, rfl⟩ := List.mem_iff_getElem.1 hx
  exact hno j _ hj (List.getElem?_eq_getElem hj)
theorem all_false {α : Type} {p : α → Bool} {L : List α} {k : Nat} {x : α} (hx : L[k]? = some x) (h : p x = false) : L.all p = false := by
  rw [← Bool.not_eq_true]
  intro ha
  rw [List.all_eq_true] at ha
  have := ha x (List.mem_of_getElem? hx)
  rw [h] at this; cases this

theorem dkept_fn (V W : List Vip) (B B' : List Back) (hV : V.length ≤ 1000000) (hW : W.length ≤ 1000000) : Fn Tryz.prog 12 [farmD V B, farmD W B'] fun d => d = boolD (V.all (kept1 W)) := by
  refine fnOf [] Tryz.func12 rfl (by kernel_rfl) (Nat.le_of_ble_eq_true rfl) ?_
  conv => whnf
  refine ⟨Nat, fun k => ⟨[(12, intD k), (11, intD V.length), (10, rowsV V), (3, .loc 1 0)], [(1, .cells 31 [rowsV W, rowsB B'])], 2, ([], 0)⟩,
    fun k => k ≤ V.length ∧ ∀ (j : Nat) u, j < k → V[j]? = some u → kept1 W u = true, fun k => V.length - k, ⟨0, [], [], ?_, Nat.zero_le _, fun j u h => by omega⟩, ?_⟩
  · repeat' (first | exact trivial | exact .inl (DLe.refl _) | exact .inl (DLe.nil _ _) | (refine .inr ⟨rfl, _, ?_, rfl⟩; rfl) | exact rfl | exact Nat.zero_le _ | constructor)
  · rintro k ⟨hk, hno⟩
    conv => whnf
    refine Fork.intro (fun h1 => ?_) (fun h1 => ?_)
    · have hlt : (k : Int) < V.length := of_decide_eq_true h1
      conv => whnf
      refine ⟨rfl, ⟨by omega, hlt⟩, fun x hx => ?_⟩
      have hxk : V[k]? = some x := by simpa using hx
      conv => whnf
      refine CallVC.pure (dvip_fn W B' x.id hW) rfl ?_
      rintro _ rfl
      cases hat : atV x.id W with
      | none =>
        conv => whnf
        rw [all_false hxk (by simp only [kept1, hat])]
      | some w =>
        have hwid := atV_id hat
        conv => whnf
        refine ⟨eqVipOk, rfl, ?_⟩
        conv => whnf
        refine Fork.intro (fun h2 => ?_) (fun h2 => ?_)
        · conv => whnf
          rw [all_false hxk (by
            simp only [kept1, hat]
            simp [eqD] at h2 ⊢
            intro a1 a2 a3
            rcases h2 with h | h | h | h
            · exact h hwid.symm
            · exact h a1.symm
            · exact h a2.symm
            · exact h a3.symm)]
        · conv => whnf
          rw [wrap_next (show k < V.length by omega) hV]
          refine ⟨k + 1, [], [], ?_, ⟨by omega, all_next hxk (by
            simp only [kept1, hat]
            simp [eqD] at h2 ⊢
            exact ⟨h2.2.1.symm, h2.2.2.1.symm, h2.2.2.2.symm⟩) hno⟩, by show V.length - (k + 1) < V.length - k; omega⟩
          repeat' (first | exact trivial | exact .inl (DLe.refl _) | exact .inl (DLe.nil _ _) | (refine .inr ⟨rfl, _, ?_, rfl⟩; rfl) | exact rfl | exact Nat.zero_le _ | constructor)
    · have hge : ¬ (k : Int) < V.length := of_decide_eq_false h1
      conv => whnf
      rw [all_true (fun j u hj => hno j u (by omega))]

/-- Does a backend go? By the program. -/
theorem dgoes_fn (x : Back) (V : List Vip) (B : List Back) (hB : B.length ≤ 1000000) : Fn Tryz.prog 37 [.agg (backD x), farmD V B] fun d => d = boolD (leavesB x B) := by
  refine fnOf [] Tryz.func37 rfl (by kernel_rfl) (Nat.le_of_ble_eq_true rfl) ?_
  conv => whnf
  refine CallVC.pure (dback_fn V B x.id hB) rfl ?_
  rintro _ rfl
  have hl : leavesB x B = match atB x.id B with
    | none => true
    | some y => !decide (y.vip = x.vip) || (!decide (y.addr = x.addr) || (decide (x.life = 2) && decide (y.life = 1))) := rfl
  cases hat : atB x.id B with
  | none =>
    rw [hat] at hl
    conv => whnf
    rw [hl]
  | some y =>
    rw [hat] at hl
    rw [hl]
    have e1 : decide (x.vip = y.vip) = decide (y.vip = x.vip) := by congr 1; exact propext eq_comm
    have e2 : decide (x.addr = y.addr) = decide (y.addr = x.addr) := by congr 1; exact propext eq_comm
    conv => whnf
    repeat' (refine Fork.intro (fun _ => ?_) (fun _ => ?_) <;> conv => whnf)
    all_goals
      congr 2
      simp_all
end Go.Proofs.YtghfefkmmobmgaaGreat.V
namespace Go.Proofs.YtghfefkmmobmgaaGreat.V
open Go.RowKit
attribute [local irreducible] Fn CallVC OpVC

structure Ord where
  count : Int
  op : Int
  id : Int
  vip : Int
  addr : Int
  port : Int
  proto : Int
  num : Int
def ordD (o : Ord) : List D := [.v (.int .u64 o.count), intD o.op, intD o.id, intD o.vip, .v (.int .u32 o.addr), .v (.int .u16 o.port), .v (.int .u8 o.proto), intD o.num]
abbrev rowsO (L : List Ord) : D := .rows Ord 8 ordD L

theorem flat_snoc {α β : Type} {L : List α} {k : Nat} {x : α} (h : L[k]? = some x) (f : α → List β) : (L.take (k + 1)).flatMap f = (L.take k).flatMap f ++ f x := by
  rw [take_snoc h, List.flatMap_append]; simp
theorem flat_len {α β : Type} {n : Nat} {f : α → List β} (h : ∀ x, (f x).length ≤ n) : ∀ L : List α, (L.flatMap f).length ≤ n * L.length
  | [] => by simp
  | x :: r => by
    have h1 := flat_len h r
    have h2 := h x
    rw [List.flatMap_cons, List.length_append, List.length_cons, Nat.mul_succ]
    omega
theorem flat_len_take {α β : Type} {n m k : Nat} {f : α → List β} (h : ∀ x, (f x).length ≤ n) (L : List α) (hL : L.length ≤ m) : ((L.take k).flatMap f).length ≤ n * m :=
  Nat.le_trans (flat_len h _) (Nat.mul_le_mul_left n (Nat.le_trans (by rw [List.length_take]; omega) hL))

/-- The mode that a Vip is to have. -/
def modeOf (W : List Vip) (v : Vip) : Int := match atV v.id W with
  | none => 0
  | some w => w.mode
def modes1 (W : List Vip) (v : Vip) : List Ord := match decide (modeOf W v = v.mode) with
  | true => []
  | false => [⟨0, 6, v.id, 0, 0, 0, 0, modeOf W v⟩]
def removes1 (B' : List Back) (x : Back) : List Ord := match leavesB x B' with
  | true => [⟨0, 3, x.id, 0, 0, 0, 0, 0⟩]
  | false => []
def adds1 (V : List Vip) (v : Vip) : List Ord := match atV v.id V with
  | none => [⟨0, 1, v.id, 0, v.addr, v.port, v.proto, v.mode⟩]
  | some _ => []
def new1 (y : Back) : List Ord := match decide (y.life = 1) with
  | true => [⟨0, 2, y.id, y.vip, y.addr, 0, 0, y.weight⟩]
  | false => [⟨0, 2, y.id, y.vip, y.addr, 0, 0, y.weight⟩, ⟨0, 4, y.id, 0, 0, 0, 0, 0⟩]
def old1 (x y : Back) : List Ord := (match decide (x.weight = y.weight) with
  | true => []
  | false => [⟨0, 5, y.id, 0, 0, 0, 0, y.weight⟩]) ++ (match decide (x.life = y.life) with
  | true => []
  | false => [⟨0, 4, y.id, 0, 0, 0, 0, 0⟩])
def backs1 (B B' : List Back) (y : Back) : List Ord := match atB y.id B with
  | none => new1 y
  | some x => match leavesB x B' with
    | true => new1 y
    | false => old1 x y
theorem modes1_len (W : List Vip) (v : Vip) : (modes1 W v).length ≤ 2 := by unfold modes1; split <;> simp
theorem removes1_len (B' : List Back) (v : Back) : (removes1 B' v).length ≤ 2 := by unfold removes1; split <;> simp
theorem adds1_len (V : List Vip) (v : Vip) : (adds1 V v).length ≤ 2 := by unfold adds1; split <;> simp
theorem new1_len (y : Back) : (new1 y).length ≤ 2 := by unfold new1; split <;> simp
theorem old1_len (x y : Back) : (old1 x y).length ≤ 2 := by unfold old1; split <;> split <;> simp
theorem backs1_len (B B' : List Back) (y : Back) : (backs1 B B' y).length ≤ 2 := by
  unfold backs1
  split
  · exact new1_len y
  · split
    · exact new1_len y
    · exact old1_len _ y

theorem modes_fn (V W : List Vip) (B B' : List Back) (hV : V.length ≤ 100) (hW : W.length ≤ 100) : Fn Tryz.prog 14 [farmD V B, farmD W B'] fun d => d = rowsO (V.flatMap (modes1 W)) := by
  refine fnOf [] Tryz.func14 rfl (by kernel_rfl) (Nat.le_of_ble_eq_true rfl) ?_
  conv => whnf
  refine ⟨Nat × List Ord, fun p => ⟨[(13, intD p.1), (12, intD V.length), (11, rowsV V), (5, .grow 2), (3, .loc 1 0)], [(1, .cells 31 [rowsV W, rowsB B']), (2, .grow Ord 27 8 ordD p.2)], 3, ([], 0)⟩,
    fun p => p.1 ≤ V.length ∧ p.2 = (V.take p.1).flatMap (modes1 W), fun p => V.length - p.1, ⟨(0, []), [], [2], ?_, Nat.zero_le _, rfl⟩, ?_⟩
  · repeat' (first | exact trivial | exact .inl (DLe.refl _) | exact .inl (DLe.nil _ _) | (refine .inr ⟨rfl, _, ?_, rfl⟩; rfl) | exact rfl | exact Nat.zero_le _ | constructor)
  · rintro ⟨k, L⟩ ⟨hk, hL⟩
    dsimp only at hk hL
    have hlen : L.length ≤ 200 := by rw [hL]; exact flat_len_take (modes1_len W) V hV
    conv => whnf
    refine Fork.intro (fun h1 => ?_) (fun h1 => ?_)
    · have hlt : (k : Int) < V.length := of_decide_eq_true h1
      conv => whnf
      refine ⟨rfl, ⟨by omega, hlt⟩, fun x hx => ?_⟩
      have hxk : V[k]? = some x := by simpa using hx
      have hnext := flat_snoc hxk (modes1 W)
      rw [← hL] at hnext
      conv => whnf
      refine CallVC.pure (dvip_fn W B' x.id (by omega)) rfl ?_
      rintro _ rfl
      cases hat : atV x.id W with
      | none =>
        have hm : modeOf W x = 0 := by simp only [modeOf, hat]
        conv => whnf
        refine Fork.intro (fun h2 => ?_) (fun h2 => ?_)
        · conv => whnf
          (refine ⟨Nat.le_of_ble_eq_true rfl, ?_⟩; conv => whnf)
          refine ⟨Ord, ordD, L ++ [⟨0, 6, x.id, 0, 0, 0, 0, 0⟩], (by rw [List.map_append]; rfl), fun _ => rfl, by simp only [List.length_append, List.length_cons, List.length_nil]; omega, by simp only [List.length_append, List.length_cons, List.length_nil]; omega, rfl, ?_⟩
          conv => whnf
          rw [wrap_next (show k < V.length by omega) (by omega)]
          refine ⟨(k + 1, L ++ [⟨0, 6, x.id, 0, 0, 0, 0, 0⟩]), [(2, 5)], [], ?_, ⟨by show k + 1 ≤ _; omega, ?_⟩, by show V.length - (k + 1) < V.length - k; omega⟩
          · repeat' (first | exact trivial | exact .inl (DLe.refl _) | exact .inl (DLe.nil _ _) | (refine .inr ⟨rfl, _, ?_, rfl⟩; rfl) | exact rfl | exact Nat.zero_le _ | constructor)
          · show _ = (V.take (k + 1)).flatMap (modes1 W)
            rw [hnext, modes1, hm, show decide ((0 : Int) = x.mode) = false by simpa using h2]
        · conv => whnf
          rw [wrap_next (show k < V.length by omega) (by omega)]
          refine ⟨(k + 1, L), [], [], ?_, ⟨by show k + 1 ≤ _; omega, ?_⟩, by show V.length - (k + 1) < V.length - k; omega⟩
          · repeat' (first | exact trivial | exact .inl (DLe.refl _) | exact .inl (DLe.nil _ _) | (refine .inr ⟨rfl, _, ?_, rfl⟩; rfl) | exact rfl | exact Nat.zero_le _ | constructor)
          · show _ = (V.take (k + 1)).flatMap (modes1 W)
            rw [hnext, modes1, hm, show decide ((0 : Int) = x.mode) = true by simpa using h2, List.append_nil]
      | some w =>
        have hm : modeOf W x = w.mode := by simp only [modeOf, hat]
        conv => whnf
        refine Fork.intro (fun h2 => ?_) (fun h2 => ?_)
        · conv => whnf
          (refine ⟨Nat.le_of_ble_eq_true rfl, ?_⟩; conv => whnf)
          refine ⟨Ord, ordD, L ++ [⟨0, 6, x.id, 0, 0, 0, 0, w.mode⟩], (by rw [List.map_append]; rfl), fun _ => rfl, by simp only [List.length_append, List.length_cons, List.length_nil]; omega, by simp only [List.length_append, List.length_cons, List.length_nil]; omega, rfl, ?_⟩
          conv => whnf
          rw [wrap_next (show k < V.length by omega) (by omega)]
          refine ⟨(k + 1, L ++ [⟨0, 6, x.id, 0, 0, 0, 0, w.mode⟩]), [(2, 5)], [], ?_, ⟨by show k + 1 ≤ _; omega, ?_⟩, by show V.length - (k + 1) < V.length - k; omega⟩
          · repeat' (first | exact trivial | exact .inl (DLe.refl _) | exact .inl (DLe.nil _ _) | (refine .inr ⟨rfl, _, ?_, rfl⟩; rfl) | exact rfl | exact Nat.zero_le _ | constructor)
          · show _ = (V.take (k + 1)).flatMap (modes1 W)
            rw [hnext, modes1, hm, show decide (w.mode = x.mode) = false by simpa using h2]
        · conv => whnf
          rw [wrap_next (show k < V.length by omega) (by omega)]
          refine ⟨(k + 1, L), [], [], ?_, ⟨by show k + 1 ≤ _; omega, ?_⟩, by show V.length - (k + 1) < V.length - k; omega⟩
          · repeat' (first | exact trivial | exact .inl (DLe.refl _) | exact .inl (DLe.nil _ _) | (refine .inr ⟨rfl, _, ?_, rfl⟩; rfl) | exact rfl | exact Nat.zero_le _ | constructor)
          · show _ = (V.take (k + 1)).flatMap (modes1 W)
            rw [hnext, modes1, hm, show decide (w.mode = x.mode) = true by simpa using h2, List.append_nil]
    · have hge : ¬ (k : Int) < V.length := of_decide_eq_false h1
      rw [List.take_of_length_le (by omega)] at hL
      rw [← hL]
      conv => whnf

theorem removes_fn (V W : List Vip) (B B' : List Back) (hV : B.length ≤ 100) (hW : B'.length ≤ 100) : Fn Tryz.prog 15 [farmD V B, farmD W B'] fun d => d = rowsO (B.flatMap (removes1 B')) := by
  refine fnOf [] Tryz.func15 rfl (by kernel_rfl) (Nat.le_of_ble_eq_true rfl) ?_
  conv => whnf
  refine ⟨Nat × List Ord, fun p => ⟨[(11, intD p.1), (10, intD B.length), (9, rowsB B), (5, .grow 2), (3, .loc 1 0)], [(1, .cells 31 [rowsV W, rowsB B']), (2, .grow Ord 27 8 ordD p.2)], 3, ([], 0)⟩,
    fun p => p.1 ≤ B.length ∧ p.2 = (B.take p.1).flatMap (removes1 B'), fun p => B.length - p.1, ⟨(0, []), [], [2], ?_, Nat.zero_le _, rfl⟩, ?_⟩
  · repeat' (first | exact trivial | exact .inl (DLe.refl _) | exact .inl (DLe.nil _ _) | (refine .inr ⟨rfl, _, ?_, rfl⟩; rfl) | exact rfl | exact Nat.zero_le _ | constructor)
  · rintro ⟨k, L⟩ ⟨hk, hL⟩
    dsimp only at hk hL
    have hlen : L.length ≤ 200 := by rw [hL]; exact flat_len_take (removes1_len B') B hV
    conv => whnf
    refine Fork.intro (fun h1 => ?_) (fun h1 => ?_)
    · have hlt : (k : Int) < B.length := of_decide_eq_true h1
      conv => whnf
      refine ⟨rfl, ⟨by omega, hlt⟩, fun x hx => ?_⟩
      have hxk : B[k]? = some x := by simpa using hx
      have hnext := flat_snoc hxk (removes1 B')
      rw [← hL] at hnext
      conv => whnf
      refine CallVC.pure (dgoes_fn x W B' (by omega)) rfl ?_
      rintro _ rfl
      conv => whnf
      refine Fork.intro (fun h2 => ?_) (fun h2 => ?_)
      · conv => whnf
        (refine ⟨Nat.le_of_ble_eq_true rfl, ?_⟩; conv => whnf)
        refine ⟨Ord, ordD, L ++ [⟨0, 3, x.id, 0, 0, 0, 0, 0⟩], (by rw [List.map_append]; rfl), fun _ => rfl, by simp only [List.length_append, List.length_cons, List.length_nil]; omega, by simp only [List.length_append, List.length_cons, List.length_nil]; omega, rfl, ?_⟩
        conv => whnf
        rw [wrap_next (show k < B.length by omega) (by omega)]
        refine ⟨(k + 1, L ++ [⟨0, 3, x.id, 0, 0, 0, 0, 0⟩]), [(2, 4)], [], ?_, ⟨by show k + 1 ≤ _; omega, ?_⟩, by show B.length - (k + 1) < B.length - k; omega⟩
        · repeat' (first | exact trivial | exact .inl (DLe.refl _) | exact .inl (DLe.nil _ _) | (refine .inr ⟨rfl, _, ?_, rfl⟩; rfl) | exact rfl | exact Nat.zero_le _ | constructor)
        · show _ = (B.take (k + 1)).flatMap (removes1 B')
          rw [hnext, removes1, h2]
      · conv => whnf
        rw [wrap_next (show k < B.length by omega) (by omega)]
        refine ⟨(k + 1, L), [], [], ?_, ⟨by show k + 1 ≤ _; omega, ?_⟩, by show B.length - (k + 1) < B.length - k; omega⟩
        · repeat' (first | exact trivial | exact .inl (DLe.refl _) | exact .inl (DLe.nil _ _) | (refine .inr ⟨rfl, _, ?_, rfl⟩; rfl) | exact rfl | exact Nat.zero_le _ | constructor)
        · show _ = (B.take (k + 1)).flatMap (removes1 B')
          rw [hnext, removes1, h2, List.append_nil]
    · have hge : ¬ (k : Int) < B.length := of_decide_eq_false h1
      rw [List.take_of_length_le (by omega)] at hL
      rw [← hL]
      conv => whnf

theorem adds_fn (V W : List Vip) (B B' : List Back) (hV : V.length ≤ 100) (hW : W.length ≤ 100) : Fn Tryz.prog 16 [farmD V B, farmD W B'] fun d => d = rowsO (W.flatMap (adds1 V)) := by
  refine fnOf [] Tryz.func16 rfl (by kernel_rfl) (Nat.le_of_ble_eq_true rfl) ?_
  conv => whnf
  refine ⟨Nat × List Ord, fun p => ⟨[(13, intD p.1), (12, intD W.length), (11, rowsV W), (5, .grow 2), (2, .loc 0 0)], [(0, .cells 31 [rowsV V, rowsB B]), (2, .grow Ord 27 8 ordD p.2)], 3, ([], 0)⟩,
    fun p => p.1 ≤ W.length ∧ p.2 = (W.take p.1).flatMap (adds1 V), fun p => W.length - p.1, ⟨(0, []), [], [2], ?_, Nat.zero_le _, rfl⟩, ?_⟩
  · repeat' (first | exact trivial | exact .inl (DLe.refl _) | exact .inl (DLe.nil _ _) | (refine .inr ⟨rfl, _, ?_, rfl⟩; rfl) | exact rfl | exact Nat.zero_le _ | constructor)
  · rintro ⟨k, L⟩ ⟨hk, hL⟩
    dsimp only at hk hL
    have hlen : L.length ≤ 200 := by rw [hL]; exact flat_len_take (adds1_len V) W hW
    conv => whnf
    refine Fork.intro (fun h1 => ?_) (fun h1 => ?_)
    · have hlt : (k : Int) < W.length := of_decide_eq_true h1
      conv => whnf
      refine ⟨rfl, ⟨by omega, hlt⟩, fun x hx => ?_⟩
      have hxk : W[k]? = some x := by simpa using hx
      have hnext := flat_snoc hxk (adds1 V)
      rw [← hL] at hnext
      conv => whnf
      refine CallVC.pure (dvip_fn V B x.id (by omega)) rfl ?_
      rintro _ rfl
      cases hat : atV x.id V with
      | none =>
        conv => whnf
        (refine ⟨Nat.le_of_ble_eq_true rfl, ?_⟩; conv => whnf)
        refine ⟨Ord, ordD, L ++ [⟨0, 1, x.id, 0, x.addr, x.port, x.proto, x.mode⟩], (by rw [List.map_append]; rfl), fun _ => rfl, by simp only [List.length_append, List.length_cons, List.length_nil]; omega, by simp only [List.length_append, List.length_cons, List.length_nil]; omega, rfl, ?_⟩
        conv => whnf
        rw [wrap_next (show k < W.length by omega) (by omega)]
        refine ⟨(k + 1, L ++ [⟨0, 1, x.id, 0, x.addr, x.port, x.proto, x.mode⟩]), [(2, 5)], [], ?_, ⟨by show k + 1 ≤ _; omega, ?_⟩, by show W.length - (k + 1) < W.length - k; omega⟩
        · repeat' (first | exact trivial | exact .inl (DLe.refl _) | exact .inl (DLe.nil _ _) | (refine .inr ⟨rfl, _, ?_, rfl⟩; rfl) | exact rfl | exact Nat.zero_le _ | constructor)
        · show _ = (W.take (k + 1)).flatMap (adds1 V)
          rw [hnext, adds1, hat]
      | some w =>
        conv => whnf
        rw [wrap_next (show k < W.length by omega) (by omega)]
        refine ⟨(k + 1, L), [], [], ?_, ⟨by show k + 1 ≤ _; omega, ?_⟩, by show W.length - (k + 1) < W.length - k; omega⟩
        · repeat' (first | exact trivial | exact .inl (DLe.refl _) | exact .inl (DLe.nil _ _) | (refine .inr ⟨rfl, _, ?_, rfl⟩; rfl) | exact rfl | exact Nat.zero_le _ | constructor)
        · show _ = (W.take (k + 1)).flatMap (adds1 V)
          rw [hnext, adds1, hat, List.append_nil]
    · have hge : ¬ (k : Int) < W.length := of_decide_eq_false h1
      rw [List.take_of_length_le (by omega)] at hL
      rw [← hL]
      conv => whnf

theorem backends_fn (V W : List Vip) (B B' : List Back) (hV : B.length ≤ 100) (hW : B'.length ≤ 100) : Fn Tryz.prog 17 [farmD V B, farmD W B'] fun d => d = rowsO (B'.flatMap (backs1 B B')) := by
  refine fnOf [] Tryz.func17 rfl (by kernel_rfl) (Nat.le_of_ble_eq_true rfl) ?_
  conv => whnf
  refine ⟨Nat × List Ord, fun p => ⟨[(13, intD p.1), (12, intD B'.length), (11, rowsB B'), (5, .grow 2), (3, .loc 1 0), (2, .loc 0 0)], [(0, .cells 31 [rowsV V, rowsB B]), (1, .cells 31 [rowsV W, rowsB B']), (2, .grow Ord 27 8 ordD p.2)], 3, ([], 0)⟩,
    fun p => p.1 ≤ B'.length ∧ p.2 = (B'.take p.1).flatMap (backs1 B B'), fun p => B'.length - p.1, ⟨(0, []), [], [2], ?_, Nat.zero_le _, rfl⟩, ?_⟩
  · repeat' (first | exact trivial | exact .inl (DLe.refl _) | exact .inl (DLe.nil _ _) | (refine .inr ⟨rfl, _, ?_, rfl⟩; rfl) | exact rfl | exact Nat.zero_le _ | constructor)
  · rintro ⟨k, L⟩ ⟨hk, hL⟩
    dsimp only at hk hL
    have hlen : L.length ≤ 200 := by rw [hL]; exact flat_len_take (backs1_len B B') B' hW
    conv => whnf
    refine Fork.intro (fun h1 => ?_) (fun h1 => ?_)
    · have hlt : (k : Int) < B'.length := of_decide_eq_true h1
      conv => whnf
      refine ⟨rfl, ⟨by omega, hlt⟩, fun y hy => ?_⟩
      have hyk : B'[k]? = some y := by simpa using hy
      have hnext := flat_snoc hyk (backs1 B B')
      rw [← hL] at hnext
      conv => whnf
      refine CallVC.pure (dback_fn V B y.id (by omega)) rfl ?_
      rintro _ rfl
      cases hat : atB y.id B with
      | none =>
        have hb1 : backs1 B B' y = new1 y := by simp only [backs1, hat]
        conv => whnf
        (refine ⟨Nat.le_of_ble_eq_true rfl, ?_⟩; conv => whnf)
        refine ⟨Ord, ordD, L ++ [⟨0, 2, y.id, y.vip, y.addr, 0, 0, y.weight⟩], (by rw [List.map_append]; rfl), fun _ => rfl, by simp only [List.length_append, List.length_cons, List.length_nil]; omega, by simp only [List.length_append, List.length_cons, List.length_nil]; omega, rfl, ?_⟩
        conv => whnf
        refine Fork.intro (fun h3 => by simp at h3) (fun _ => ?_)
        conv => whnf
        refine Fork.intro (fun h3 => ?_) (fun h3 => ?_)
        · conv => whnf
          (refine ⟨Nat.le_of_ble_eq_true rfl, ?_⟩; conv => whnf)
          refine ⟨Ord, ordD, (L ++ [⟨0, 2, y.id, y.vip, y.addr, 0, 0, y.weight⟩]) ++ [⟨0, 4, y.id, 0, 0, 0, 0, 0⟩], (by rw [List.map_append]; rfl), fun _ => rfl, by simp only [List.length_append, List.length_cons, List.length_nil]; omega, by simp only [List.length_append, List.length_cons, List.length_nil]; omega, rfl, ?_⟩
          conv => whnf
          rw [wrap_next (show k < B'.length by omega) (by omega)]
          refine ⟨(k + 1, (L ++ [⟨0, 2, y.id, y.vip, y.addr, 0, 0, y.weight⟩]) ++ [⟨0, 4, y.id, 0, 0, 0, 0, 0⟩]), [(2, 6)], [], ?_, ⟨by show k + 1 ≤ _; omega, ?_⟩, by show B'.length - (k + 1) < B'.length - k; omega⟩
          · repeat' (first | exact trivial | exact .inl (DLe.refl _) | exact .inl (DLe.nil _ _) | (refine .inr ⟨rfl, _, ?_, rfl⟩; rfl) | exact rfl | exact Nat.zero_le _ | constructor)
          · show _ = (B'.take (k + 1)).flatMap (backs1 B B')
            rw [hnext, hb1, new1, decide_eq_false (p := y.life = 1) (fun hq => by rw [hq] at h3; simp at h3), List.append_assoc]; rfl
        · conv => whnf
          rw [wrap_next (show k < B'.length by omega) (by omega)]
          refine ⟨(k + 1, L ++ [⟨0, 2, y.id, y.vip, y.addr, 0, 0, y.weight⟩]), [(2, 5)], [], ?_, ⟨by show k + 1 ≤ _; omega, ?_⟩, by show B'.length - (k + 1) < B'.length - k; omega⟩
          · repeat' (first | exact trivial | exact .inl (DLe.refl _) | exact .inl (DLe.nil _ _) | (refine .inr ⟨rfl, _, ?_, rfl⟩; rfl) | exact rfl | exact Nat.zero_le _ | constructor)
          · show _ = (B'.take (k + 1)).flatMap (backs1 B B')
            rw [hnext, hb1, new1, decide_eq_true (p := y.life = 1) (by simp at h3; exact h3.symm)]
      | some x =>
        conv => whnf
        refine CallVC.pure (dgoes_fn x W B' (by omega)) rfl ?_
        rintro _ rfl
        conv => whnf
        refine Fork.intro (fun h2 => ?_) (fun h2 => ?_)
        · have hb1 : backs1 B B' y = new1 y := by simp only [backs1, hat, h2]
          conv => whnf
          (refine ⟨Nat.le_of_ble_eq_true rfl, ?_⟩; conv => whnf)
          refine ⟨Ord, ordD, L ++ [⟨0, 2, y.id, y.vip, y.addr, 0, 0, y.weight⟩], (by rw [List.map_append]; rfl), fun _ => rfl, by simp only [List.length_append, List.length_cons, List.length_nil]; omega, by simp only [List.length_append, List.length_cons, List.length_nil]; omega, rfl, ?_⟩
          conv => whnf
          refine Fork.intro (fun h3 => by simp at h3) (fun _ => ?_)
          conv => whnf
          refine Fork.intro (fun h3 => ?_) (fun h3 => ?_)
          · conv => whnf
            (refine ⟨Nat.le_of_ble_eq_true rfl, ?_⟩; conv => whnf)
            refine ⟨Ord, ordD, (L ++ [⟨0, 2, y.id, y.vip, y.addr, 0, 0, y.weight⟩]) ++ [⟨0, 4, y.id, 0, 0, 0, 0, 0⟩], (by rw [List.map_append]; rfl), fun _ => rfl, by simp only [List.length_append, List.length_cons, List.length_nil]; omega, by simp only [List.length_append, List.length_cons, List.length_nil]; omega, rfl, ?_⟩
            conv => whnf
            rw [wrap_next (show k < B'.length by omega) (by omega)]
            refine ⟨(k + 1, (L ++ [⟨0, 2, y.id, y.vip, y.addr, 0, 0, y.weight⟩]) ++ [⟨0, 4, y.id, 0, 0, 0, 0, 0⟩]), [(2, 6)], [], ?_, ⟨by show k + 1 ≤ _; omega, ?_⟩, by show B'.length - (k + 1) < B'.length - k; omega⟩
            · repeat' (first | exact trivial | exact .inl (DLe.refl _) | exact .inl (DLe.nil _ _) | (refine .inr ⟨rfl, _, ?_, rfl⟩; rfl) | exact rfl | exact Nat.zero_le _ | constructor)
            · show _ = (B'.take (k + 1)).flatMap (backs1 B B')
              rw [hnext, hb1, new1, decide_eq_false (p := y.life = 1) (fun hq => by rw [hq] at h3; simp at h3), List.append_assoc]; rfl
          · conv => whnf
            rw [wrap_next (show k < B'.length by omega) (by omega)]
            refine ⟨(k + 1, L ++ [⟨0, 2, y.id, y.vip, y.addr, 0, 0, y.weight⟩]), [(2, 5)], [], ?_, ⟨by show k + 1 ≤ _; omega, ?_⟩, by show B'.length - (k + 1) < B'.length - k; omega⟩
            · repeat' (first | exact trivial | exact .inl (DLe.refl _) | exact .inl (DLe.nil _ _) | (refine .inr ⟨rfl, _, ?_, rfl⟩; rfl) | exact rfl | exact Nat.zero_le _ | constructor)
            · show _ = (B'.take (k + 1)).flatMap (backs1 B B')
              rw [hnext, hb1, new1, decide_eq_true (p := y.life = 1) (by simp at h3; exact h3.symm)]
        · have hb1 : backs1 B B' y = old1 x y := by simp only [backs1, hat, h2]
          conv => whnf
          refine Fork.intro (fun h3 => ?_) (fun h3 => ?_)
          · have e3 : decide (x.weight = y.weight) = false := by simpa using h3
            conv => whnf
            (refine ⟨Nat.le_of_ble_eq_true rfl, ?_⟩; conv => whnf)
            refine ⟨Ord, ordD, L ++ [⟨0, 5, y.id, 0, 0, 0, 0, y.weight⟩], (by rw [List.map_append]; rfl), fun _ => rfl, by simp only [List.length_append, List.length_cons, List.length_nil]; omega, by simp only [List.length_append, List.length_cons, List.length_nil]; omega, rfl, ?_⟩
            conv => whnf
            refine Fork.intro (fun h4 => ?_) (fun h4 => ?_)
            · have e4 : decide (x.life = y.life) = false := by simpa using h4
              conv => whnf
              (refine ⟨Nat.le_of_ble_eq_true rfl, ?_⟩; conv => whnf)
              refine ⟨Ord, ordD, (L ++ [⟨0, 5, y.id, 0, 0, 0, 0, y.weight⟩]) ++ [⟨0, 4, y.id, 0, 0, 0, 0, 0⟩], (by rw [List.map_append]; rfl), fun _ => rfl, by simp only [List.length_append, List.length_cons, List.length_nil]; omega, by simp only [List.length_append, List.length_cons, List.length_nil]; omega, rfl, ?_⟩
              conv => whnf
              rw [wrap_next (show k < B'.length by omega) (by omega)]
              refine ⟨(k + 1, (L ++ [⟨0, 5, y.id, 0, 0, 0, 0, y.weight⟩]) ++ [⟨0, 4, y.id, 0, 0, 0, 0, 0⟩]), [(2, 6)], [], ?_, ⟨by show k + 1 ≤ _; omega, ?_⟩, by show B'.length - (k + 1) < B'.length - k; omega⟩
              · repeat' (first | exact trivial | exact .inl (DLe.refl _) | exact .inl (DLe.nil _ _) | (refine .inr ⟨rfl, _, ?_, rfl⟩; rfl) | exact rfl | exact Nat.zero_le _ | constructor)
              · show _ = (B'.take (k + 1)).flatMap (backs1 B B')
                rw [hnext, hb1, old1, e3, e4, List.append_assoc]
            · have e4 : decide (x.life = y.life) = true := by simpa using h4
              conv => whnf
              rw [wrap_next (show k < B'.length by omega) (by omega)]
              refine ⟨(k + 1, L ++ [⟨0, 5, y.id, 0, 0, 0, 0, y.weight⟩]), [(2, 5)], [], ?_, ⟨by show k + 1 ≤ _; omega, ?_⟩, by show B'.length - (k + 1) < B'.length - k; omega⟩
              · repeat' (first | exact trivial | exact .inl (DLe.refl _) | exact .inl (DLe.nil _ _) | (refine .inr ⟨rfl, _, ?_, rfl⟩; rfl) | exact rfl | exact Nat.zero_le _ | constructor)
              · show _ = (B'.take (k + 1)).flatMap (backs1 B B')
                rw [hnext, hb1, old1, e3, e4, List.append_nil]
          · have e3 : decide (x.weight = y.weight) = true := by simpa using h3
            conv => whnf
            refine Fork.intro (fun h4 => ?_) (fun h4 => ?_)
            · have e4 : decide (x.life = y.life) = false := by simpa using h4
              conv => whnf
              (refine ⟨Nat.le_of_ble_eq_true rfl, ?_⟩; conv => whnf)
              refine ⟨Ord, ordD, L ++ [⟨0, 4, y.id, 0, 0, 0, 0, 0⟩], (by rw [List.map_append]; rfl), fun _ => rfl, by simp only [List.length_append, List.length_cons, List.length_nil]; omega, by simp only [List.length_append, List.length_cons, List.length_nil]; omega, rfl, ?_⟩
              conv => whnf
              rw [wrap_next (show k < B'.length by omega) (by omega)]
              refine ⟨(k + 1, L ++ [⟨0, 4, y.id, 0, 0, 0, 0, 0⟩]), [(2, 5)], [], ?_, ⟨by show k + 1 ≤ _; omega, ?_⟩, by show B'.length - (k + 1) < B'.length - k; omega⟩
              · repeat' (first | exact trivial | exact .inl (DLe.refl _) | exact .inl (DLe.nil _ _) | (refine .inr ⟨rfl, _, ?_, rfl⟩; rfl) | exact rfl | exact Nat.zero_le _ | constructor)
              · show _ = (B'.take (k + 1)).flatMap (backs1 B B')
                rw [hnext, hb1, old1, e3, e4, List.nil_append]
            · have e4 : decide (x.life = y.life) = true := by simpa using h4
              conv => whnf
              rw [wrap_next (show k < B'.length by omega) (by omega)]
              refine ⟨(k + 1, L), [], [], ?_, ⟨by show k + 1 ≤ _; omega, ?_⟩, by show B'.length - (k + 1) < B'.length - k; omega⟩
              · repeat' (first | exact trivial | exact .inl (DLe.refl _) | exact .inl (DLe.nil _ _) | (refine .inr ⟨rfl, _, ?_, rfl⟩; rfl) | exact rfl | exact Nat.zero_le _ | constructor)
              · show _ = (B'.take (k + 1)).flatMap (backs1 B B')
                rw [hnext, hb1, old1, e3, e4, List.append_nil, List.append_nil]
    · have hge : ¬ (k : Int) < B'.length := of_decide_eq_false h1
      rw [List.take_of_length_le (by omega)] at hL
      rw [← hL]
      conv => whnf
end Go.Proofs.YtghfefkmmobmgaaGreat.V
namespace Go.Proofs.YtghfefkmmobmgaaGreat.V
open Go.RowKit
attribute [local irreducible] Fn CallVC OpVC

def ord0 : Ord := ⟨0, 0, 0, 0, 0, 0, 0, 0⟩
/-- The first rows of four, one behind the other. -/
def cat4 (A B C D : List Ord) : Nat → List Ord
  | 0 => []
  | 1 => A
  | 2 => A ++ B
  | 3 => A ++ B ++ C
  | _ => A ++ B ++ C ++ D
theorem cat4_len (A B C D : List Ord) : ∀ p, (cat4 A B C D p).length ≤ A.length + B.length + C.length + D.length
  | 0 => by simp [cat4]
  | 1 => by simp only [cat4]; omega
  | 2 => by simp only [cat4, List.length_append]; omega
  | 3 => by simp only [cat4, List.length_append]; omega
  | n + 4 => by simp only [cat4, List.length_append]; omega
abbrev fourD (A B C D : List Ord) : V.D := .lit 1 [[rowsO A], [rowsO B], [rowsO C], [rowsO D]]

theorem cut_next {X A : List Ord} {n : Nat} (h : X.length + A.length ≤ n) : (X ++ A ++ List.replicate (n - (X ++ A).length) ord0).map ordD =
    ((X ++ List.replicate (n - X.length) ord0).map ordD).take X.length ++ A.map ordD ++ ((X ++ List.replicate (n - X.length) ord0).map ordD).drop (X.length + (A.map ordD).length) := by
  have h1 : ((X ++ List.replicate (n - X.length) ord0).map ordD).take X.length = X.map ordD := by
    rw [List.map_append]
    exact List.take_left' (by simp)
  have h2 : ((X ++ List.replicate (n - X.length) ord0).map ordD).drop (X.length + (A.map ordD).length) = (List.replicate (n - (X ++ A).length) ord0).map ordD := by
    rw [List.map_append, List.drop_append, List.drop_eq_nil_of_le (by simp), List.nil_append, ← List.map_drop]
    congr 1
    simp only [List.length_map, List.drop_replicate, List.length_append]
    congr 1
    omega
  rw [h1, h2, List.map_append, List.map_append]

theorem concat_vc (A B C D : List Ord) (hlen : A.length + B.length + C.length + D.length ≤ 1000) {F : List (Nat × V.D)} {o0 o1 : LO} {K : V.D → St → Prop} {g : Bool}
    (hnil : A ++ B ++ C ++ D = [] → K (.grow 2) ⟨F, [(2, .grow Ord 27 8 ordD []), (1, o1), (0, o0)], 3, ([], 0)⟩)
    (hrow : K (.cut 2 (A ++ B ++ C ++ D).length) ⟨F, [(2, .grow Ord 27 8 ordD (A ++ B ++ C ++ D)), (1, o1), (0, o0)], 3, ([], 0)⟩) :
    CallVC Tryz.prog g 13 [fourD A B C D] ⟨F, [(1, o1), (0, o0)], 2, ([], 0)⟩ K := by
  refine freshIn [] Tryz.func13 rfl (by kernel_rfl) (Nat.le_of_ble_eq_true rfl) rfl ?_
  conv => whnf
  refine ⟨Nat, fun p => ⟨[(11, intD p), (10, intD 4), (9, fourD A B C D), (3, intD (cat4 A B C D p).length), (0, fourD A B C D)], [], 2, ([], 0)⟩,
    fun p => p ≤ 4, fun p => 4 - p, ⟨0, [], [], ?_, Nat.zero_le _⟩, ?_⟩
  · repeat' (first | exact trivial | exact .inl (DLe.refl _) | exact .inl (DLe.nil _ _) | (refine .inr ⟨rfl, _, ?_, rfl⟩; rfl) | exact rfl | exact Nat.zero_le _ | constructor)
  · intro p hp
    have hcl := cat4_len A B C D p
    conv => whnf
    refine Fork.intro (fun h1 => ?_) (fun h1 => ?_)
    · have hlt : (p : Int) < 4 := of_decide_eq_true h1
      have hp4 : p = 0 ∨ p = 1 ∨ p = 2 ∨ p = 3 := by omega
      have step : ∀ L : List Ord, (cat4 A B C D (p + 1)).length = (cat4 A B C D p).length + L.length → (cat4 A B C D p).length + L.length ≤ 1000 →
          IntKind.i64.wrap (((cat4 A B C D p).length : Int) + (L.length : Int)) = ((cat4 A B C D (p + 1)).length : Nat) := fun L h h' => by
        rw [IntWalk.i64_in _ (by omega), h]; omega
      rcases hp4 with rfl | rfl | rfl | rfl
      · have e := step A (by simp [cat4]) (by simp [cat4]; omega)
        conv => whnf
        refine ⟨rfl, ?_⟩
        conv => whnf
        rw [e, decide_eq_false (show ¬ (((cat4 A B C D (0 + 1)).length : Nat) : Int) < 0 by omega)]
        conv => whnf
        refine ⟨1, [], [], ?_, by show 1 ≤ 4; omega, by show 4 - 1 < 4 - 0; omega⟩
        repeat' (first | exact trivial | exact .inl (DLe.refl _) | exact .inl (DLe.nil _ _) | (refine .inr ⟨rfl, _, ?_, rfl⟩; rfl) | exact rfl | exact Nat.zero_le _ | constructor)
      · have e := step B (by simp [cat4]) (by simp [cat4]; omega)
        conv => whnf
        refine ⟨rfl, ?_⟩
        conv => whnf
        rw [e, decide_eq_false (show ¬ (((cat4 A B C D (1 + 1)).length : Nat) : Int) < 0 by omega)]
        conv => whnf
        refine ⟨2, [], [], ?_, by show 2 ≤ 4; omega, by show 4 - 2 < 4 - 1; omega⟩
        repeat' (first | exact trivial | exact .inl (DLe.refl _) | exact .inl (DLe.nil _ _) | (refine .inr ⟨rfl, _, ?_, rfl⟩; rfl) | exact rfl | exact Nat.zero_le _ | constructor)
      · have e := step C (by simp [cat4]; omega) (by simp [cat4]; omega)
        conv => whnf
        refine ⟨rfl, ?_⟩
        conv => whnf
        rw [e, decide_eq_false (show ¬ (((cat4 A B C D (2 + 1)).length : Nat) : Int) < 0 by omega)]
        conv => whnf
        refine ⟨3, [], [], ?_, by show 3 ≤ 4; omega, by show 4 - 3 < 4 - 2; omega⟩
        repeat' (first | exact trivial | exact .inl (DLe.refl _) | exact .inl (DLe.nil _ _) | (refine .inr ⟨rfl, _, ?_, rfl⟩; rfl) | exact rfl | exact Nat.zero_le _ | constructor)
      · have e := step D (by simp [cat4]; omega) (by simp [cat4]; omega)
        conv => whnf
        refine ⟨rfl, ?_⟩
        conv => whnf
        rw [e, decide_eq_false (show ¬ (((cat4 A B C D (3 + 1)).length : Nat) : Int) < 0 by omega)]
        conv => whnf
        refine ⟨4, [], [], ?_, by show 4 ≤ 4; omega, by show 4 - 4 < 4 - 3; omega⟩
        repeat' (first | exact trivial | exact .inl (DLe.refl _) | exact .inl (DLe.nil _ _) | (refine .inr ⟨rfl, _, ?_, rfl⟩; rfl) | exact rfl | exact Nat.zero_le _ | constructor)
    · have hge : ¬ (p : Int) < 4 := of_decide_eq_false h1
      obtain rfl : p = 4 := by omega
      have hsum : (cat4 A B C D 4).length = A.length + B.length + C.length + D.length := by simp [cat4]; omega
      generalize hn : (cat4 A B C D 4).length = n at *
      conv => whnf
      refine goIn [] Tryz.func36 rfl (by kernel_rfl) (Nat.le_of_ble_eq_true rfl) ?_
      conv => whnf
      have e0 : IntKind.i64.wrap ((n : Int) - IntKind.i64.wrap (0 - 0)) = n := by
        rw [show IntKind.i64.wrap (0 - 0) = 0 from rfl, IntWalk.i64_in _ (by omega)]; omega
      rw [e0]
      refine Fork.intro (fun h3 => ?_) (fun h3 => ?_)
      · have hpos : (0 : Int) < n := of_decide_eq_true h3
        conv => whnf
        refine ⟨⟨rfl, rfl⟩, ?_⟩
        conv => whnf
        refine ⟨by decide, rfl, ⟨hpos, by omega, by show (n : Int) * 48 ≤ _; omega⟩, Ord, ordD, ord0, rfl, ?_⟩
        conv => whnf
        refine ⟨rfl, ⟨Int.le_refl _, by show (0 : Int) ≤ (List.replicate n ord0).length; omega⟩, ?_⟩
        conv => whnf
        refine ⟨Nat, fun p => ⟨[(27, intD p), (26, intD 4), (25, fourD A B C D), (6, .cut 2 (cat4 A B C D p).length)], [(2, .grow Ord 27 8 ordD (cat4 A B C D p ++ List.replicate (n - (cat4 A B C D p).length) ord0))], 3, ([], 0)⟩,
          fun p => p ≤ 4, fun p => 4 - p, ⟨0, [], [], ?_, Nat.zero_le _⟩, ?_⟩
        · repeat' (first | exact trivial | exact .inl (DLe.refl _) | exact .inl (DLe.nil _ _) | (refine .inr ⟨rfl, _, ?_, rfl⟩; rfl) | exact rfl | exact Nat.zero_le _ | constructor)
        · intro p hp
          conv => whnf
          refine Fork.intro (fun h1 => ?_) (fun h1 => ?_)
          · have hlt : (p : Int) < 4 := of_decide_eq_true h1
            have hp4 : p = 0 ∨ p = 1 ∨ p = 2 ∨ p = 3 := by omega
            rcases hp4 with rfl | rfl | rfl | rfl
            · have e1 : (cat4 A B C D 0).length + (List.map ordD A).length = (cat4 A B C D 1).length := by simp [cat4, Nat.add_assoc]
              have hf : (cat4 A B C D 0).length + A.length ≤ n := by rw [← hn]; simp only [cat4, List.length_append, List.length_nil]; omega
              conv => whnf
              refine ⟨rfl, ?_⟩
              conv => whnf
              refine ⟨_, rfl, by decide, rfl, by show (cat4 A B C D 0).length + (List.map ordD A).length ≤ (cat4 A B C D 0 ++ List.replicate (n - (cat4 A B C D 0).length) ord0).length; rw [List.length_map, List.length_append, List.length_replicate]; omega, rfl, _, cut_next (X := cat4 A B C D 0) hf, fun _ => rfl, ?_⟩
              rw [e1]
              conv => whnf
              refine ⟨1, [], [], ?_, by show 1 ≤ 4; omega, by show 4 - 1 < 4 - 0; omega⟩
              repeat' (first | exact trivial | exact .inl (DLe.refl _) | exact .inl (DLe.nil _ _) | (refine .inr ⟨rfl, _, ?_, rfl⟩; rfl) | exact rfl | exact Nat.zero_le _ | constructor)
            · have e1 : (cat4 A B C D 1).length + (List.map ordD B).length = (cat4 A B C D 2).length := by simp [cat4, Nat.add_assoc]
              have hf : (cat4 A B C D 1).length + B.length ≤ n := by rw [← hn]; simp only [cat4, List.length_append, List.length_nil]; omega
              conv => whnf
              refine ⟨rfl, ?_⟩
              conv => whnf
              refine ⟨_, rfl, by decide, rfl, by show (cat4 A B C D 1).length + (List.map ordD B).length ≤ (cat4 A B C D 1 ++ List.replicate (n - (cat4 A B C D 1).length) ord0).length; rw [List.length_map, List.length_append, List.length_replicate]; omega, rfl, _, cut_next (X := cat4 A B C D 1) hf, fun _ => rfl, ?_⟩
              rw [e1]
              conv => whnf
              refine ⟨2, [], [], ?_, by show 2 ≤ 4; omega, by show 4 - 2 < 4 - 1; omega⟩
              repeat' (first | exact trivial | exact .inl (DLe.refl _) | exact .inl (DLe.nil _ _) | (refine .inr ⟨rfl, _, ?_, rfl⟩; rfl) | exact rfl | exact Nat.zero_le _ | constructor)
            · have e1 : (cat4 A B C D 2).length + (List.map ordD C).length = (cat4 A B C D 3).length := by simp [cat4, Nat.add_assoc]
              have hf : (cat4 A B C D 2).length + C.length ≤ n := by rw [← hn]; simp only [cat4, List.length_append, List.length_nil]; omega
              conv => whnf
              refine ⟨rfl, ?_⟩
              conv => whnf
              refine ⟨_, rfl, by decide, rfl, by show (cat4 A B C D 2).length + (List.map ordD C).length ≤ (cat4 A B C D 2 ++ List.replicate (n - (cat4 A B C D 2).length) ord0).length; rw [List.length_map, List.length_append, List.length_replicate]; omega, rfl, _, cut_next (X := cat4 A B C D 2) hf, fun _ => rfl, ?_⟩
              rw [e1]
              conv => whnf
              refine ⟨3, [], [], ?_, by show 3 ≤ 4; omega, by show 4 - 3 < 4 - 2; omega⟩
              repeat' (first | exact trivial | exact .inl (DLe.refl _) | exact .inl (DLe.nil _ _) | (refine .inr ⟨rfl, _, ?_, rfl⟩; rfl) | exact rfl | exact Nat.zero_le _ | constructor)
            · have e1 : (cat4 A B C D 3).length + (List.map ordD D).length = (cat4 A B C D 4).length := by simp [cat4, Nat.add_assoc]
              have hf : (cat4 A B C D 3).length + D.length ≤ n := by rw [← hn]; simp only [cat4, List.length_append, List.length_nil]; omega
              conv => whnf
              refine ⟨rfl, ?_⟩
              conv => whnf
              refine ⟨_, rfl, by decide, rfl, by show (cat4 A B C D 3).length + (List.map ordD D).length ≤ (cat4 A B C D 3 ++ List.replicate (n - (cat4 A B C D 3).length) ord0).length; rw [List.length_map, List.length_append, List.length_replicate]; omega, rfl, _, cut_next (X := cat4 A B C D 3) hf, fun _ => rfl, ?_⟩
              rw [e1]
              conv => whnf
              refine ⟨4, [], [], ?_, by show 4 ≤ 4; omega, by show 4 - 4 < 4 - 3; omega⟩
              repeat' (first | exact trivial | exact .inl (DLe.refl _) | exact .inl (DLe.nil _ _) | (refine .inr ⟨rfl, _, ?_, rfl⟩; rfl) | exact rfl | exact Nat.zero_le _ | constructor)
          · have hge : ¬ (p : Int) < 4 := of_decide_eq_false h1
            obtain rfl : p = 4 := by omega
            have hfin : cat4 A B C D 4 ++ List.replicate (n - (cat4 A B C D 4).length) ord0 = A ++ B ++ C ++ D := by rw [hn, Nat.sub_self]; exact List.append_nil _
            rw [hfin]
            conv => whnf
            refine ⟨rfl, rfl, ?_⟩
            exact hrow
      · have hz : ¬ (0 : Int) < n := of_decide_eq_false h3
        have hA : A = [] := List.eq_nil_of_length_eq_zero (by omega)
        have hB : B = [] := List.eq_nil_of_length_eq_zero (by omega)
        have hC : C = [] := List.eq_nil_of_length_eq_zero (by omega)
        have hD : D = [] := List.eq_nil_of_length_eq_zero (by omega)
        subst hA hB hC hD
        conv => whnf
        refine ⟨Nat, fun p => ⟨[(27, intD p), (26, intD 4), (25, fourD [] [] [] []), (6, .grow 2)], [(2, .grow Ord 27 8 ordD [])], 3, ([], 0)⟩,
          fun p => p ≤ 4, fun p => 4 - p, ⟨0, [], [2], ?_, Nat.zero_le _⟩, ?_⟩
        · repeat' (first | exact trivial | exact .inl (DLe.refl _) | exact .inl (DLe.nil _ _) | (refine .inr ⟨rfl, _, ?_, rfl⟩; rfl) | exact rfl | exact Nat.zero_le _ | constructor)
        · intro p hp
          conv => whnf
          refine Fork.intro (fun h1 => ?_) (fun h1 => ?_)
          · have hlt : (p : Int) < 4 := of_decide_eq_true h1
            have hp4 : p = 0 ∨ p = 1 ∨ p = 2 ∨ p = 3 := by omega
            rcases hp4 with rfl | rfl | rfl | rfl
            · conv => whnf
              refine ⟨rfl, ?_⟩
              conv => whnf
              refine ⟨Ord, ordD, [], rfl, fun _ => rfl, by decide, by decide, rfl, ?_⟩
              conv => whnf
              refine ⟨1, [(2, 3)], [], ?_, by show 1 ≤ 4; omega, by show 4 - 1 < 4 - 0; omega⟩
              repeat' (first | exact trivial | exact .inl (DLe.refl _) | exact .inl (DLe.nil _ _) | (refine .inr ⟨rfl, _, ?_, rfl⟩; rfl) | exact rfl | exact Nat.zero_le _ | constructor)
            · conv => whnf
              refine ⟨rfl, ?_⟩
              conv => whnf
              refine ⟨Ord, ordD, [], rfl, fun _ => rfl, by decide, by decide, rfl, ?_⟩
              conv => whnf
              refine ⟨2, [(2, 3)], [], ?_, by show 2 ≤ 4; omega, by show 4 - 2 < 4 - 1; omega⟩
              repeat' (first | exact trivial | exact .inl (DLe.refl _) | exact .inl (DLe.nil _ _) | (refine .inr ⟨rfl, _, ?_, rfl⟩; rfl) | exact rfl | exact Nat.zero_le _ | constructor)
            · conv => whnf
              refine ⟨rfl, ?_⟩
              conv => whnf
              refine ⟨Ord, ordD, [], rfl, fun _ => rfl, by decide, by decide, rfl, ?_⟩
              conv => whnf
              refine ⟨3, [(2, 3)], [], ?_, by show 3 ≤ 4; omega, by show 4 - 3 < 4 - 2; omega⟩
              repeat' (first | exact trivial | exact .inl (DLe.refl _) | exact .inl (DLe.nil _ _) | (refine .inr ⟨rfl, _, ?_, rfl⟩; rfl) | exact rfl | exact Nat.zero_le _ | constructor)
            · conv => whnf
              refine ⟨rfl, ?_⟩
              conv => whnf
              refine ⟨Ord, ordD, [], rfl, fun _ => rfl, by decide, by decide, rfl, ?_⟩
              conv => whnf
              refine ⟨4, [(2, 3)], [], ?_, by show 4 ≤ 4; omega, by show 4 - 4 < 4 - 3; omega⟩
              repeat' (first | exact trivial | exact .inl (DLe.refl _) | exact .inl (DLe.nil _ _) | (refine .inr ⟨rfl, _, ?_, rfl⟩; rfl) | exact rfl | exact Nat.zero_le _ | constructor)
          · have hge : ¬ (p : Int) < 4 := of_decide_eq_false h1
            obtain rfl : p = 4 := by omega
            conv => whnf
            refine ⟨rfl, rfl, ?_⟩
            exact hnil rfl
end Go.Proofs.YtghfefkmmobmgaaGreat.V
namespace Go.Proofs.YtghfefkmmobmgaaGreat.V
open Go.RowKit
attribute [local irreducible] Fn CallVC OpVC

/-- An order with its count. -/
def num1 (last : Int) (i : Nat) (o : Ord) : Ord := { o with count := last + 1 + i }
/-- The first ones of a row of orders with their counts. -/
def numTo (last : Int) (L : List Ord) (k : Nat) : List Ord := L.mapIdx fun i o => if i < k then num1 last i o else o
theorem numTo_len (last : Int) (L : List Ord) (k : Nat) : (numTo last L k).length = L.length := by simp [numTo]
theorem numTo_zero (last : Int) (L : List Ord) : numTo last L 0 = L := by
  unfold numTo
  apply List.ext_getElem? 
  intro i
  rw [List.getElem?_mapIdx]
  cases L[i]? <;> simp
theorem numTo_at {last : Int} {L : List Ord} {k : Nat} {x : Ord} (h : (numTo last L k)[k]? = some x) : L[k]? = some x := by
  unfold numTo at h
  rw [List.getElem?_mapIdx] at h
  cases hq : L[k]? with
  | none => rw [hq] at h; cases h
  | some y => rw [hq] at h; simpa using h
theorem numTo_next {last : Int} {L : List Ord} {k : Nat} {x : Ord} (h : L[k]? = some x) : (numTo last L k).set k (num1 last k x) = numTo last L (k + 1) := by
  unfold numTo
  apply List.ext_getElem?
  intro i
  have hk := (List.getElem?_eq_some_iff.1 h).1
  rw [List.getElem?_set, List.getElem?_mapIdx, List.getElem?_mapIdx]
  by_cases hi : k = i
  · subst hi
    rw [if_pos rfl, if_pos (by simpa using hk), h]
    simp
  · rw [if_neg hi]
    cases L[i]? with
    | none => rfl
    | some y =>
      simp only [Option.map_some, Option.some.injEq]
      by_cases h1 : i < k
      · rw [if_pos h1, if_pos (by omega)]
      · rw [if_neg h1, if_neg (by omega)]
theorem u64_count {last : Int} {k : Nat} (h0 : 0 ≤ last) (h1 : last < 4611686018427387904) (h2 : k ≤ 1000) : IntKind.u64.wrap (IntKind.u64.wrap (last + IntKind.u64.wrap (k : Int)) + 1) = last + 1 + k := by
  rw [IntWalk.u64_in (k : Int) (by omega), IntWalk.u64_in (last + (k : Int)) (by omega), IntWalk.u64_in _ (by omega)]
  omega
theorem u64_count2 {last : Int} {k : Nat} (h0 : 0 ≤ last) (h1 : last < 4611686018427387904) (h2 : k ≤ 1000) : IntKind.u64.wrap (IntKind.u64.wrap (last + 1) + IntKind.u64.wrap (k : Int)) = last + 1 + k := by
  rw [IntWalk.u64_in (k : Int) (by omega), IntWalk.u64_in (last + 1) (by omega), IntWalk.u64_in _ (by omega)]

/-- The orders, not counted yet. -/
def orders (V W : List Vip) (B B' : List Back) : List Ord := V.flatMap (modes1 W) ++ B.flatMap (removes1 B') ++ W.flatMap (adds1 V) ++ B'.flatMap (backs1 B B')
noncomputable def between (V W : List Vip) (B B' : List Back) (last : Int) : Option (List Ord) := match mayB V B, mayB W B', decide (last ≥ 4611686018427387904), V.all (kept1 W) with
  | true, true, false, true => some (numTo last (orders V W B B') (orders V W B B').length)
  | _, _, _, _ => none
def orOrds : Option (List Ord) → D
  | some l => .tup [rowsO l, boolD true]
  | none => .tup [.v (.slice none 0 0), boolD false]
theorem orders_len (V W : List Vip) (B B' : List Back) (hV : V.length ≤ 100) (hW : W.length ≤ 100) (hB : B.length ≤ 100) (hB' : B'.length ≤ 100) :
    (V.flatMap (modes1 W)).length + (B.flatMap (removes1 B')).length + (W.flatMap (adds1 V)).length + (B'.flatMap (backs1 B B')).length ≤ 800 := by
  have h1 := flat_len (modes1_len W) V
  have h2 := flat_len (removes1_len B') B
  have h3 := flat_len (adds1_len V) W
  have h4 := flat_len (backs1_len B B') B'
  omega

theorem between_fn (V W : List Vip) (B B' : List Back) (last : Int) (hV : V.length ≤ 100) (hW : W.length ≤ 100) (hB : B.length ≤ 100) (hB' : B'.length ≤ 100) (wV : ∀ v ∈ V, v.ok) (wW : ∀ v ∈ W, v.ok) (wB : ∀ b ∈ B, b.ok) (wB' : ∀ b ∈ B', b.ok) (h0 : 0 ≤ last) :
    Fn Tryz.prog 5 [farmD V B, farmD W B', .v (.int .u64 last)] fun d => d = orOrds (between V W B B' last) := by
  refine fnOf [(3, [0,1,3,4,6,7,9,10,2,5,8,11,12,13,14])] Tryz.func5 rfl (by kernel_rfl) (Nat.le_of_ble_eq_true rfl) ?_
  conv => whnf
  refine CallVC.pure (right_fn V B hV hB wV wB) rfl ?_
  rintro _ rfl
  have hb : between V W B B' last = match mayB V B, mayB W B', decide (last ≥ 4611686018427387904), V.all (kept1 W) with
    | true, true, false, true => some (numTo last (orders V W B B') (orders V W B B').length)
    | _, _, _, _ => none := rfl
  cases h1 : mayB V B with
  | false =>
    rw [h1] at hb
    rw [hb]
    conv => whnf
    rfl
  | true =>
    rw [h1] at hb
    conv => whnf
    refine CallVC.pure (right_fn W B' hW hB' wW wB') rfl ?_
    rintro _ rfl
    cases h2 : mayB W B' with
    | false =>
      rw [h2] at hb
      rw [hb]
      conv => whnf
      rfl
    | true =>
      rw [h2] at hb
      conv => whnf
      refine Fork.intro (fun h3 => ?_) (fun h3 => ?_)
      · have e3 : decide (last ≥ 4611686018427387904) = true := h3
        rw [e3] at hb
        rw [hb]
        conv => whnf
        rfl
      · have e3 : decide (last ≥ 4611686018427387904) = false := h3
        have hl : ¬ last ≥ 4611686018427387904 := of_decide_eq_false e3
        rw [e3] at hb
        conv => whnf
        refine CallVC.pure (dkept_fn V W B B' (by omega) (by omega)) rfl ?_
        rintro _ rfl
        cases h4 : V.all (kept1 W) with
        | false =>
          rw [h4] at hb
          rw [hb]
          conv => whnf
          rfl
        | true =>
          rw [h4] at hb
          rw [hb]
          have hol := orders_len V W B B' hV hW hB hB'
          clear hb h1 h2 h4 e3 h3
          conv => whnf
          refine CallVC.pure (modes_fn V W B B' hV hW) rfl ?_
          rintro _ rfl
          conv => whnf
          refine CallVC.pure (removes_fn V W B B' hB hB') rfl ?_
          rintro _ rfl
          conv => whnf
          refine CallVC.pure (adds_fn V W B B' hV hW) rfl ?_
          rintro _ rfl
          conv => whnf
          refine CallVC.pure (backends_fn V W B B' hB hB') rfl ?_
          rintro _ rfl
          have hO : V.flatMap (modes1 W) ++ B.flatMap (removes1 B') ++ W.flatMap (adds1 V) ++ B'.flatMap (backs1 B B') = orders V W B B' := rfl
          generalize hg1 : V.flatMap (modes1 W) = L1 at *
          generalize hg2 : B.flatMap (removes1 B') = L2 at *
          generalize hg3 : W.flatMap (adds1 V) = L3 at *
          generalize hg4 : B'.flatMap (backs1 B B') = L4 at *
          conv => whnf
          refine ⟨by decide, ?_⟩
          conv => whnf
          refine concat_vc L1 L2 L3 L4 (by omega) (fun he => ?_) ?_
          · rw [hO] at he
            rw [he]
            conv => whnf
            refine ⟨Unit, fun _ => ⟨[(44, intD 0), (43, intD 0), (8, .grow 2), (2, .v (.int .u64 last))], [(2, .grow Ord 27 8 ordD [])], 3, ([], 0)⟩, fun _ => True, fun _ => 0, ⟨(), [], [], ?_, trivial⟩, ?_⟩
            · repeat' (first | exact trivial | exact .inl (DLe.refl _) | exact .inl (DLe.nil _ _) | (refine .inr ⟨rfl, _, ?_, rfl⟩; rfl) | exact rfl | exact Nat.zero_le _ | constructor)
            · intro _ _
              conv => whnf
              rfl
          · rw [hO]
            have hO2 : (orders V W B B').length ≤ 800 := by rw [← hO]; simp only [List.length_append]; omega
            generalize hg5 : orders V W B B' = O at *
            conv => whnf
            refine ⟨Nat, fun k => ⟨[(44, intD k), (43, intD O.length), (8, .cut 2 O.length), (2, .v (.int .u64 last))], [(2, .grow Ord 27 8 ordD (numTo last O k))], 3, ([], 0)⟩,
              fun k => k ≤ O.length, fun k => O.length - k, ⟨0, [], [], ?_, Nat.zero_le _⟩, ?_⟩
            · show Cover [] [] _ ⟨_, [(2, .grow Ord _ 8 ordD (numTo last O 0))], _, _⟩
              rw [numTo_zero]
              repeat' (first | exact trivial | exact .inl (DLe.refl _) | exact .inl (DLe.nil _ _) | (refine .inr ⟨rfl, _, ?_, rfl⟩; rfl) | exact rfl | exact Nat.zero_le _ | constructor)
            · intro k hk
              have hnl := numTo_len last O k
              conv => whnf
              refine Fork.intro (fun h5 => ?_) (fun h5 => ?_)
              · have hlt : (k : Int) < O.length := of_decide_eq_true h5
                conv => whnf
                refine ⟨rfl, ⟨by omega, hlt, by omega⟩, ?_⟩
                conv => whnf
                refine ⟨rfl, by show (k : Int).toNat < _; omega, fun x hx => ?_⟩
                have hx2 := numTo_at (show (numTo last O k)[k]? = some x by simpa using hx)
                conv => whnf
                rw [u64_count h0 (by omega) (by omega)]
                refine ⟨rfl, num1 last k x, rfl, ?_⟩
                have hset : (numTo last O k).set (k : Int).toNat (num1 last k x) = numTo last O (k + 1) := numTo_next hx2
                rw [hset]
                conv => whnf
                rw [wrap_next (show k < O.length by omega) (by omega)]
                refine ⟨k + 1, [], [], ?_, by show k + 1 ≤ _; omega, by show O.length - (k + 1) < O.length - k; omega⟩
                repeat' (first | exact trivial | exact .inl (DLe.refl _) | exact .inl (DLe.nil _ _) | (refine .inr ⟨rfl, _, ?_, rfl⟩; rfl) | exact rfl | exact Nat.zero_le _ | constructor)
              · have hge : ¬ (k : Int) < O.length := of_decide_eq_false h5
                obtain rfl : k = O.length := by omega
                conv => whnf
                show D.tup [snapD 5 _ (.cut 2 O.length), _] = _
                rw [snap_cut (L := numTo last O O.length) rfl (by omega), List.take_of_length_le (by omega)]
                rfl
end Go.Proofs.YtghfefkmmobmgaaGreat.V
namespace Go.Proofs.YtghfefkmmobmgaaGreat.V
open Go.RowKit
attribute [local irreducible] Fn CallVC OpVC

theorem may_of {V : List Vip} {B : List Back} (h : mayB V B = true) : farmMay (V.map tupV) (B.map tupB) := by
  unfold mayB at h
  exact @of_decide_eq_true _ (Classical.propDecidable _) h
theorem uniqB_of {V : List Vip} {B : List Back} (h : mayB V B = true) {i j : Nat} {x y : Back} (hi : B[i]? = some x) (hj : B[j]? = some y) (he : x.id = y.id) : i = j := by
  obtain ⟨_, _, _, h4⟩ := may_of h
  have hm : ∀ {i : Nat} {x : Back}, B[i]? = some x → (B.map tupB)[i]? = some (tupB x) := fun hi => by rw [List.getElem?_map, hi]; rfl
  rcases Nat.lt_trichotomy i j with hlt | heq | hlt
  · have h5 := (h4 j _ (hm hj)).2.1 i _ hlt (hm hi)
    have h6 : x.id < y.id := h5
    omega
  · exact heq
  · have h5 := (h4 i _ (hm hi)).2.1 j _ hlt (hm hj)
    have h6 : y.id < x.id := h5
    omega
theorem atB_at {V : List Vip} {B : List Back} (h : mayB V B = true) {i : Nat} {x : Back} (hi : B[i]? = some x) : atB x.id B = some x := by
  unfold atB
  rcases findI_cases (fun b : Back => decide (b.id = x.id)) B with ⟨_, h2⟩ | ⟨k, y, h1, h2, h3, _⟩
  · have := h2 x (List.mem_of_getElem? hi)
    simp at this
  · have h4 : y.id = x.id := of_decide_eq_true h3
    have := uniqB_of h h2 hi h4
    subst this
    rw [hi] at h2
    injection h2 with h2; subst h2
    unfold getAt
    rw [h1, decide_eq_false (by omega : ¬ (k : Int) < 0)]
    exact hi
theorem stay_of {V : List Vip} {x y : Back} {B' : List Back} {k : Nat} (h : mayB V B' = true) (hid : x.id = y.id) (hy : B'[k]? = some y) (hh : x.life = 2 ∧ y.life = 1) : leavesB x B' = true := by
  have h1 := atB_at h hy
  have h2 : leavesB x B' = match atB x.id B' with
    | none => true
    | some y => !decide (y.vip = x.vip) || (!decide (y.addr = x.addr) || (decide (x.life = 2) && decide (y.life = 1))) := rfl
  rw [h2, hid, h1]
  simp [hh.1, hh.2]
theorem life_of {V : List Vip} {B : List Back} (h : mayB V B = true) {y : Back} (hy : y ∈ B) : y.life = 1 ∨ y.life = 2 := by
  obtain ⟨_, _, _, h4⟩ := may_of h
  obtain ⟨i, hi, rfl⟩ := List.mem_iff_getElem.1 hy
  have h5 := (h4 i (tupB B[i]) (by rw [List.getElem?_map, List.getElem?_eq_getElem hi]; rfl)).1
  exact h5.2.2.2.2.2
theorem lens_of {V : List Vip} {B : List Back} (h : mayB V B = true) : V.length ≤ 4 ∧ B.length ≤ 16 := by
  obtain ⟨h1, h2, _⟩ := may_of h
  rw [List.length_map] at h1 h2
  exact ⟨h1, h2⟩
theorem atB_mem {id : Int} {B : List Back} {x : Back} (h : atB id B = some x) : x ∈ B := by
  unfold atB at h
  rcases found (fun b : Back => decide (b.id = id)) B with ⟨_, h2⟩ | ⟨k, y, _, h2, h3⟩
  · rw [h2] at h; cases h
  · rw [h2] at h; injection h with h; subst h; exact List.mem_of_getElem? h3

end Go.Proofs.YtghfefkmmobmgaaGreat.V
namespace Go.Proofs.YtghfefkmmobmgaaGreat.V
open Go.RowKit
attribute [local irreducible] Fn CallVC OpVC

/-- Are two rows the same, element by element? -/
def rowsEq {α : Type} (p : α → α → Bool) (L M : List α) : Bool := decide (L.length = M.length) && (List.range L.length).all fun j => match L[j]?, M[j]? with
  | some a, some b => p a b
  | _, _ => true
theorem rowsEq_len {α : Type} {p : α → α → Bool} {L M : List α} (h : L.length ≠ M.length) : rowsEq p L M = false := by
  unfold rowsEq; rw [decide_eq_false h, Bool.false_and]
theorem rowsEq_not {α : Type} {p : α → α → Bool} {L M : List α} {k : Nat} {x y : α} (hx : L[k]? = some x) (hy : M[k]? = some y) (h : p x y = false) : rowsEq p L M = false := by
  unfold rowsEq
  rw [← Bool.not_eq_true, Bool.and_eq_true]
  rintro ⟨_, h2⟩
  have := List.all_eq_true.1 h2 k (List.mem_range.2 (List.getElem?_eq_some_iff.1 hx).1)
  rw [hx, hy] at this
  simp only [h] at this
  cases this
theorem rowsEq_all {α : Type} {p : α → α → Bool} {L M : List α} (hl : L.length = M.length) (h : ∀ (j : Nat) x y, j < L.length → L[j]? = some x → M[j]? = some y → p x y = true) : rowsEq p L M = true := by
  unfold rowsEq
  rw [decide_eq_true hl, Bool.true_and, List.all_eq_true]
  intro j hj
  have hj := List.mem_range.1 hj
  rw [List.getElem?_eq_getElem hj, List.getElem?_eq_getElem (by omega)]
  exact h j _ _ hj (List.getElem?_eq_getElem hj) (List.getElem?_eq_getElem (by omega))
theorem eq_next {α : Type} {p : α → α → Bool} {L M : List α} {k : Nat} {x y : α} (hx : L[k]? = some x) (hy : M[k]? = some y) (h : p x y = true) (hno : ∀ (j : Nat) u v, j < k → L[j]? = some u → M[j]? = some v → p u v = true) : ∀ (j : Nat) u v, j < k + 1 → L[j]? = some u → M[j]? = some v → p u v = true := by
  intro j u v hj hu hv
  rcases Nat.lt_succ_iff_lt_or_eq.1 hj with h1 | rfl
  · exact hno j u v h1 hu hv
  · rw [hx] at hu; injection hu with hu; subst hu
    rw [hy] at hv; injection hv with hv; subst hv
    exact h
def eqV (v w : Vip) : Bool := eqD (vipD v) (vipD w)
def eqB (v w : Back) : Bool := eqD (backD v) (backD w)
def plain (b : Back) : Back := { b with up := false }
def likeB (v w : Back) : Bool := eqB { v with up := w.up } w
theorem rowsEq_map {α : Type} {p q : α → α → Bool} {f : α → α} (h : ∀ x y, p (f x) (f y) = q x y) (L M : List α) : rowsEq p (L.map f) (M.map f) = rowsEq q L M := by
  unfold rowsEq
  simp only [List.length_map]
  congr 1
  congr 1
  funext j
  simp only [List.getElem?_map]
  cases L[j]? <;> cases M[j]? <;> simp [h]
theorem like_plain (x y : Back) : eqB (plain x) (plain y) = likeB x y := by
  simp [eqB, likeB, plain, eqD, backD]

theorem equalV_fn (V W : List Vip) (hV : V.length ≤ 1000000) : Fn Tryz.prog 18 [rowsV V, rowsV W] fun d => d = boolD (rowsEq eqV V W) := by
  refine fnOf [] Tryz.func18 rfl (by kernel_rfl) (Nat.le_of_ble_eq_true rfl) ?_
  conv => whnf
  refine Fork.intro (fun h1 => ?_) (fun h1 => ?_)
  · conv => whnf
    rw [rowsEq_len (fun h => by rw [h] at h1; simp at h1)]
  · have hl : V.length = W.length := by simp at h1; omega
    conv => whnf
    refine ⟨Nat, fun k => ⟨[(13, intD k), (12, intD V.length), (1, rowsV W), (0, rowsV V)], [], 0, ([], 0)⟩,
      fun k => k ≤ V.length ∧ ∀ (j : Nat) u v, j < k → V[j]? = some u → W[j]? = some v → eqV u v = true, fun k => V.length - k, ⟨0, [], [], ?_, Nat.zero_le _, fun j u v h => absurd h (Nat.not_lt_zero _)⟩, ?_⟩
    · repeat' (first | exact trivial | exact .inl (DLe.refl _) | exact .inl (DLe.nil _ _) | (refine .inr ⟨rfl, _, ?_, rfl⟩; rfl) | exact rfl | exact Nat.zero_le _ | constructor)
    · rintro k ⟨hk, hno⟩
      conv => whnf
      refine Fork.intro (fun h2 => ?_) (fun h2 => ?_)
      · have hlt : (k : Int) < V.length := of_decide_eq_true h2
        conv => whnf
        refine ⟨rfl, ⟨by omega, hlt⟩, fun x hx => ?_⟩
        have hxk : V[k]? = some x := by simpa using hx
        conv => whnf
        refine ⟨rfl, ⟨by omega, by omega⟩, fun y hy => ?_⟩
        have hyk : W[k]? = some y := by simpa using hy
        conv => whnf
        refine ⟨eqVipOk, rfl, ?_⟩
        conv => whnf
        refine Fork.intro (fun h3 => ?_) (fun h3 => ?_)
        · have e : eqV x y = false := by rw [Bool.not_eq_true'] at h3; exact h3
          conv => whnf
          rw [rowsEq_not hxk hyk e]
        · have e : eqV x y = true := by rw [Bool.not_eq_false'] at h3; exact h3
          conv => whnf
          rw [wrap_next (show k < V.length by omega) hV]
          refine ⟨k + 1, [], [], ?_, ⟨by omega, eq_next hxk hyk e hno⟩, by show V.length - (k + 1) < V.length - k; omega⟩
          repeat' (first | exact trivial | exact .inl (DLe.refl _) | exact .inl (DLe.nil _ _) | (refine .inr ⟨rfl, _, ?_, rfl⟩; rfl) | exact rfl | exact Nat.zero_le _ | constructor)
      · have hge : ¬ (k : Int) < V.length := of_decide_eq_false h2
        conv => whnf
        rw [rowsEq_all hl (fun j u v hj => hno j u v (by omega))]

theorem like1_fn (x y : Back) : Fn Tryz.prog 20 [.agg (backD x), .agg (backD y)] fun d => d = boolD (likeB x y) := by
  refine fnOf [] Tryz.func20 rfl (by kernel_rfl) (Nat.le_of_ble_eq_true rfl) ?_
  conv => whnf
  refine ⟨eqBackOk, rfl, ?_⟩
  conv => whnf
  rfl

theorem equalFunc_fn (V W : List Back) (hV : V.length ≤ 1000000) : Fn Tryz.prog 19 [rowsB V, rowsB W, .fn 20 [] []] fun d => d = boolD (rowsEq likeB V W) := by
  refine fnOf [] Tryz.func19 rfl (by kernel_rfl) (Nat.le_of_ble_eq_true rfl) ?_
  conv => whnf
  refine Fork.intro (fun h1 => ?_) (fun h1 => ?_)
  · conv => whnf
    rw [rowsEq_len (fun h => by rw [h] at h1; simp at h1)]
  · have hl : V.length = W.length := by simp at h1; omega
    conv => whnf
    refine ⟨Nat, fun k => ⟨[(17, intD k), (16, intD V.length), (15, rowsB V), (2, .fn 20 [] []), (1, rowsB W)], [], 0, ([], 0)⟩,
      fun k => k ≤ V.length ∧ ∀ (j : Nat) u v, j < k → V[j]? = some u → W[j]? = some v → likeB u v = true, fun k => V.length - k, ⟨0, [], [], ?_, Nat.zero_le _, fun j u v h => absurd h (Nat.not_lt_zero _)⟩, ?_⟩
    · repeat' (first | exact trivial | exact .inl (DLe.refl _) | exact .inl (DLe.nil _ _) | (refine .inr ⟨rfl, _, ?_, rfl⟩; rfl) | exact rfl | exact Nat.zero_le _ | constructor)
    · rintro k ⟨hk, hno⟩
      conv => whnf
      refine Fork.intro (fun h2 => ?_) (fun h2 => ?_)
      · have hlt : (k : Int) < V.length := of_decide_eq_true h2
        conv => whnf
        refine ⟨rfl, ⟨by omega, hlt⟩, fun x hx => ?_⟩
        have hxk : V[k]? = some x := by simpa using hx
        conv => whnf
        refine ⟨rfl, ⟨by omega, by omega⟩, fun y hy => ?_⟩
        have hyk : W[k]? = some y := by simpa using hy
        conv => whnf
        refine CallVC.pure (like1_fn x y) rfl ?_
        rintro _ rfl
        conv => whnf
        refine Fork.intro (fun h3 => ?_) (fun h3 => ?_)
        · have e : likeB x y = false := by simpa using h3
          conv => whnf
          rw [rowsEq_not hxk hyk e]
        · have e : likeB x y = true := by simpa using h3
          conv => whnf
          rw [wrap_next (show k < V.length by omega) hV]
          refine ⟨k + 1, [], [], ?_, ⟨by omega, eq_next hxk hyk e hno⟩, by show V.length - (k + 1) < V.length - k; omega⟩
          repeat' (first | exact trivial | exact .inl (DLe.refl _) | exact .inl (DLe.nil _ _) | (refine .inr ⟨rfl, _, ?_, rfl⟩; rfl) | exact rfl | exact Nat.zero_le _ | constructor)
      · have hge : ¬ (k : Int) < V.length := of_decide_eq_false h2
        conv => whnf
        rw [rowsEq_all hl (fun j u v hj => hno j u v (by omega))]

theorem dlike_fn (V W : List Vip) (B B' : List Back) (hV : V.length ≤ 1000000) (hB : B.length ≤ 1000000) : Fn Tryz.prog 7 [farmD V B, farmD W B'] fun d => d = boolD (rowsEq eqV V W && rowsEq likeB B B') := by
  refine fnOf [] Tryz.func7 rfl (by kernel_rfl) (Nat.le_of_ble_eq_true rfl) ?_
  conv => whnf
  refine CallVC.pure (equalV_fn V W hV) rfl ?_
  rintro _ rfl
  cases h1 : rowsEq eqV V W with
  | false =>
    conv => whnf
    rfl
  | true =>
    conv => whnf
    refine CallVC.pure (equalFunc_fn B B' hB) rfl ?_
    rintro _ rfl
    conv => whnf
    rw [Bool.true_and]

theorem plainly_fn (V : List Vip) (B : List Back) (hB : B.length ≤ 1000) : Fn Tryz.prog 6 [farmD V B] fun d => d = farmD V (B.map plain) := by
  refine fnOf [] Tryz.func6 rfl (by kernel_rfl) (Nat.le_of_ble_eq_true rfl) ?_
  conv => whnf
  refine ⟨Nat × List Back, fun p => ⟨[(4, intD p.1), (3, .loc 2 0), (2, .loc 1 0), (1, .loc 0 0)], [(0, .cells 31 [rowsV V, rowsB B]), (1, .cells 31 [.v (.slice none 0 0), .v (.slice none 0 0)]), (2, .cells 31 [rowsV V, .grow 3]), (3, .grow Back 50 6 backD p.2)], 4, ([], 0)⟩,
    fun p => p.1 ≤ B.length ∧ p.2 = (B.take p.1).map plain, fun p => B.length - p.1, ⟨(0, []), [], [3], ?_, Nat.zero_le _, rfl⟩, ?_⟩
  · repeat' (first | exact trivial | exact .inl (DLe.refl _) | exact .inl (DLe.nil _ _) | (refine .inr ⟨rfl, _, ?_, rfl⟩; rfl) | exact rfl | exact Nat.zero_le _ | constructor)
  · rintro ⟨k, L⟩ ⟨hk, hL⟩
    dsimp only at hk hL
    have hlen : L.length ≤ 1000 := by rw [hL, List.length_map, List.length_take]; omega
    conv => whnf
    refine Fork.intro (fun h1 => ?_) (fun h1 => ?_)
    · have hlt : (k : Int) < B.length := of_decide_eq_true h1
      conv => whnf
      refine ⟨rfl, ⟨by omega, hlt⟩, fun x hx => ?_⟩
      have hxk : B[k]? = some x := by simpa using hx
      conv => whnf
      (refine ⟨Nat.le_of_ble_eq_true rfl, ?_⟩; conv => whnf)
      refine ⟨Back, backD, L ++ [plain x], (by rw [List.map_append]; rfl), fun _ => rfl, by simp only [List.length_append, List.length_cons, List.length_nil]; omega, by simp only [List.length_append, List.length_cons, List.length_nil]; omega, rfl, ?_⟩
      conv => whnf
      rw [wrap_next (show k < B.length by omega) (by omega)]
      refine ⟨(k + 1, L ++ [plain x]), [(3, 5)], [], ?_, ⟨by show k + 1 ≤ _; omega, ?_⟩, by show B.length - (k + 1) < B.length - k; omega⟩
      · repeat' (first | exact trivial | exact .inl (DLe.refl _) | exact .inl (DLe.nil _ _) | (refine .inr ⟨rfl, _, ?_, rfl⟩; rfl) | exact rfl | exact Nat.zero_le _ | constructor)
      · show _ = (B.take (k + 1)).map plain
        rw [take_snoc hxk, List.map_append, hL]
        rfl
    · have hge : ¬ (k : Int) < B.length := of_decide_eq_false h1
      rw [List.take_of_length_le (by omega)] at hL
      rw [← hL]
      conv => whnf
      rfl

theorem diff_lives (w : World) : Calls Tryz.prog 8 #[] w fun e w' => e = .returned (.bool true) ∧ Below w.heap.size w w' :=
  lives_of (steps := 100000) (d := 60) (by kernel_rfl) w
theorem dlives_fn : Fn Tryz.prog 8 [] fun d => d = boolD true := by
  unfold Fn
  refine ⟨⟨_, Tryz.func8, rfl⟩, fun w B vs _ hr => ?_⟩
  have : vs = [] := List.eq_nil_of_length_eq_zero hr.1
  subst this
  exact (diff_lives w).mono fun e w' ⟨h1, h2⟩ => ⟨_, _, rfl, h1, h2, .v⟩
end Go.Proofs.YtghfefkmmobmgaaGreat.V
