/-
  Farms by the program: what is asked of a Vip, of a backend; memory of one's own. Conditions: numbers of their types.
  slices.SortFunc at Vips and at backends, functions of strings, laid on the shelf's contracts, in plain words (written by the kit's lay-plain.mjs). No condition.
  Farms by the program: addresses and backends added. Conditions: a farm that may be, numbers of their types.
  Farms by the program: backends removed and changed. Conditions: a farm that may be, numbers of their types.
  Farms by the program: backends drained, weighed; modes. Conditions: a farm that may be, numbers of their types.
  Orders done, by the program and by the document. Conditions: a farm that may be, numbers of their types.
  What is done leaves a farm that may be. No condition.
  Orders done one behind the other, plainly: what each does to the members of a farm. No condition.
  The orders between two farms, done, make the one into the other one: plainly. No condition.
  The orders between two farms, done, make the one into the other one: backends; the whole. No condition.
  The law DiffMakes, plainly: the orders between two farms, done by number; who is up stays so. No condition.
-/
import Derived.Test.YtooaeccmkgockaaGreatDoorK11
import Derived.Test.YtooaeccmkgockaaGreatDoorVsK
import Derived.Shelf.SlGeneric
import Derived.Shelf.SlLaysF0
import Derived.Ground.SlsfProg
import Derived.Shelf.Strings.OnBuilder
import Derived.Shelf.Small.Strs
import Derived.Shelf.Strings.SplitCore
import Derived.Shelf.Strings.Search3
import Derived.Shelf.Strings.Count
import Derived.Shelf.Strings.Builder1
import Derived.Shelf.Strings.Builder2
import Derived.Test.YtooaeccmkgockaaGreatDoorProg
import Derived.Handy
namespace Go.Proofs.YtooaeccmkgockaaGreatDoor.V
open Go.RowKit
attribute [local irreducible] Fn OpVC

theorem freshToIn {f : FuncId} {fn : Func} {c : Code} {args : List D} {s : St} {K : D → St → Prop} {g : Bool} (pl : Plans) (hfn : Tryz.prog.funcs[f]? = some fn) (hc : fn.body = some c) (hok : codeOk pl fn.ntmps c = true) (hn : args.length ≤ fn.ntmps) (h0 : 0 < fn.ntmps) (hcut : args.all (cutOk 6 0) = true)
    (h : wpc Tryz.prog tt pl c ⟨enumD args 0, [], s.nx, ([], 0)⟩ fun e s' => endK e (resK tt s' fn.results.toList fun l => seeD (oneD l) fun d => ∃ r z d' H' n', Cover r z ⟨(0, d) :: s'.F, s'.H, s'.nx, s'.G⟩ ⟨[(0, d')], H', n', ([], 0)⟩ ∧ freshOk s.nx H' d' = true ∧ Nat.ble s.nx n' = true ∧ K d' ⟨s.F, H' ++ s.H, n', s.G⟩)) : CallVC Tryz.prog g f args s K :=
  CallVC.freshTo ttH ebH mxH hfn hc hok hn h0 hcut h

theorem shr24 (a : Int) : a.fdiv (2 ^ (min (24 : Int).toNat IntKind.u32.bits)) = a / 16777216 := by
  rw [show (2 : Int) ^ (min (24 : Int).toNat IntKind.u32.bits) = 16777216 by decide]
  exact Int.fdiv_eq_ediv_of_nonneg _ (by decide)
theorem special_fn (a : Int) : Fn Tryz.prog 90 [.v (.int .u32 a)] fun d => d = boolD (specB a) := by
  refine fnOf [] Tryz.func90 rfl (by kernel_rfl) (Nat.le_of_ble_eq_true rfl) ?_
  have hq := shr24 a
  conv => whnf
  repeat' (first | (refine Fork.intro (fun _ => ?_) (fun _ => ?_) <;> conv => whnf) | (refine ⟨by decide, ?_⟩; conv => whnf))
  all_goals
    congr 2
    simp_all [specB]

theorem mayVip_fn (v : Vip) (hv : v.ok) : Fn Tryz.prog 66 [.agg (vipD v)] fun d => d = boolD (goodV v) := by
  refine fnOf [] Tryz.func66 rfl (by kernel_rfl) (Nat.le_of_ble_eq_true rfl) ?_
  have hp := hv.port
  conv => whnf
  repeat' (first
    | (refine Fork.intro (fun _ => ?_) (fun _ => ?_) <;> conv => whnf)
    | (refine CallVC.pure (special_fn _) rfl ?_; rintro _ rfl; conv => whnf))
  all_goals
    congr 2
    simp_all [goodV]
    try omega

theorem mayBackend_fn (b : Back) : Fn Tryz.prog 69 [.agg (backD b)] fun d => d = boolD (goodB b) := by
  refine fnOf [] Tryz.func69 rfl (by kernel_rfl) (Nat.le_of_ble_eq_true rfl) ?_
  conv => whnf
  repeat' (first
    | (refine Fork.intro (fun _ => ?_) (fun _ => ?_) <;> conv => whnf)
    | (refine CallVC.pure (special_fn _) rfl ?_; rintro _ rfl; conv => whnf))
  all_goals
    congr 2
    simp_all [goodB]
    try first
      | omega
      | (rw [Bool.eq_iff_iff]; simp only [Bool.and_eq_true, decide_eq_true_eq]; omega)

theorem farmVip1_fn (v : Vip) {id : Int} : Fn Tryz.prog 92 [.agg (vipD v), .fp [intD id]] fun d => d = boolD (decide (v.id = id)) := by
  refine fnOf [] Tryz.func92 rfl (by kernel_rfl) (Nat.le_of_ble_eq_true rfl) ?_
  conv => whnf
theorem farmVip_fn (V : List Vip) (B : List Back) (id : Int) (hV : V.length ≤ 100) : Fn Tryz.prog 70 [farmD V B, intD id] fun d => d = intD (findI (fun v => decide (v.id = id)) V) := by
  refine fnOf [] Tryz.func70 rfl (by kernel_rfl) (Nat.le_of_ble_eq_true rfl) ?_
  conv => whnf
  refine CallVC.snap (indexFuncV_fn V (c := .int .i64 id) (fun x _ => farmVip1_fn x) (by omega)) ?_
  rintro _ rfl
  refine ⟨rfl, ?_⟩
  conv => whnf

theorem same_symm (v w : Vip) : sameAt w.addr w.port w.proto v = sameAt v.addr v.port v.proto w := by
  unfold sameAt
  rw [Bool.eq_iff_iff]
  simp only [Bool.and_eq_true, decide_eq_true_eq]
  constructor <;> (rintro ⟨h1, h2, h3⟩; exact ⟨h1.symm, h2.symm, h3.symm⟩)
def metV (v w : Vip) : Bool := decide (w.id = v.id) || sameAt v.addr v.port v.proto w
theorem addVip1_fn (v w : Vip) : Fn Tryz.prog 103 [.agg (vipD w), .fp (vipD v)] fun d => d = boolD (metV v w) := by
  refine fnOf [] Tryz.func103 rfl (by kernel_rfl) (Nat.le_of_ble_eq_true rfl) ?_
  conv => whnf
  refine Fork.intro (fun h1 => ?_) (fun h1 => ?_)
  · conv => whnf
    unfold metV
    rw [h1, Bool.true_or]
  · conv => whnf
    refine CallVC.pure (like_fn v) rfl ?_
    rintro _ rfl
    conv => whnf
    unfold metV
    rw [h1, Bool.false_or, same_symm]

theorem indexFuncS_fn (V : List Vip) {f : FuncId} (c : Vip) {p : Vip → Bool} (hf : ∀ x, x ∈ V → Fn Tryz.prog f [.agg (vipD x), .fp (vipD c)] fun d => d = boolD (p x)) (hV : V.length ≤ 1000000) :
    Fn Tryz.prog 89 [rowsV V, .fn f [] [.fp (vipD c)]] fun d => d = intD (findI p V) := by
  refine fnOf [] Tryz.func89 rfl (by kernel_rfl) (Nat.le_of_ble_eq_true rfl) ?_
  conv => whnf
  refine ⟨Nat, fun k => ⟨[(8, intD k), (7, intD V.length), (0, rowsV V), (1, .fn f [] [.fp (vipD c)])], [], 0, ([], 0)⟩,
    fun k => k ≤ V.length ∧ ∀ (j : Nat) u, j < k → V[j]? = some u → p u = false, fun k => V.length - k, ⟨0, [], [], ?_, Nat.zero_le _, fun j u h => by omega⟩, ?_⟩
  · repeat' (first | exact trivial | exact .inl (DLe.refl _) | exact .inl (DLe.nil _ _) | (refine .inr ⟨rfl, _, ?_, rfl⟩; rfl) | exact rfl | exact Nat.zero_le _ | constructor)
  · rintro k ⟨hk, hno⟩
    conv => whnf
    refine Fork.intro (fun h1 => ?_) (fun h1 => ?_)
    · have hlt : (k : Int) < V.length := of_decide_eq_true h1
      conv => whnf
      refine ⟨rfl, ⟨by omega, hlt⟩, fun x hx => ?_⟩
      have hxk : V[k]? = some x := by simpa using hx
      conv => whnf
      refine CallVC.pure (hf x (List.mem_of_getElem? hxk)) rfl ?_
      rintro _ rfl
      conv => whnf
      refine Fork.intro (fun h2 => ?_) (fun h2 => ?_)
      · conv => whnf
        rw [findI_at hxk h2 hno]
      · conv => whnf
        rw [wrap_next (show k < V.length by omega) hV]
        refine ⟨k + 1, [], [], ?_, ⟨by omega, no_next hxk h2 hno⟩, by show V.length - (k + 1) < V.length - k; omega⟩
        repeat' (first | exact trivial | exact .inl (DLe.refl _) | exact .inl (DLe.nil _ _) | (refine .inr ⟨rfl, _, ?_, rfl⟩; rfl) | exact rfl | exact Nat.zero_le _ | constructor)
    · have hge : ¬ (k : Int) < V.length := of_decide_eq_false h1
      conv => whnf
      rw [findI_none (fun j u hj => hno j u (by omega))]
theorem containsFuncS_fn (V : List Vip) {f : FuncId} (c : Vip) {p : Vip → Bool} (hf : ∀ x, x ∈ V → Fn Tryz.prog f [.agg (vipD x), .fp (vipD c)] fun d => d = boolD (p x)) (hV : V.length ≤ 1000000) :
    Fn Tryz.prog 63 [rowsV V, .fn f [] [.fp (vipD c)]] fun d => d = boolD (decide (findI p V ≥ 0)) := by
  refine fnOf [] Tryz.func63 rfl (by kernel_rfl) (Nat.le_of_ble_eq_true rfl) ?_
  conv => whnf
  refine CallVC.pure (indexFuncS_fn V c hf hV) rfl ?_
  rintro _ rfl
  conv => whnf

theorem cloneVip_vc4 (V : List Vip) (hV : V.length ≤ 100) {F : List (Nat × D)} {H : List (Nat × LO)} {G : List Nat × Nat} {K : D → St → Prop} {g : Bool}
    (h : K (.grow 4) ⟨F, (4, .grow Vip 79 5 vipD V) :: H, 5, G⟩) : CallVC Tryz.prog g 117 [rowsV V] ⟨F, H, 4, G⟩ K := by
  refine freshToIn [] Tryz.func117 rfl (by kernel_rfl) (Nat.le_of_ble_eq_true rfl) (by decide) rfl ?_
  conv => whnf
  intro b hb
  conv => whnf
  refine Fork.intro (fun h1 => ?_) (fun h1 => ?_)
  · have e := hb h1
    subst e
    conv => whnf
    refine ⟨[], [4], .grow 4, [(4, .grow Vip 79 5 vipD [])], 5, ?_, rfl, rfl, h⟩
    repeat' (first | exact trivial | exact .inl (DLe.refl _) | exact .inl (DLe.nil _ _) | (refine .inr ⟨rfl, _, ?_, rfl⟩; rfl) | exact rfl | exact Nat.zero_le _ | constructor)
  · conv => whnf
    refine ⟨Vip, vipD, V, rfl, fun _ => rfl, by omega, by show V.length * 24 ≤ _; omega, rfl, ?_⟩
    conv => whnf
    refine ⟨[(4, 5)], [], .grow 4, [(4, .grow Vip 79 5 vipD V)], 5, ?_, rfl, rfl, h⟩
    repeat' (first | exact trivial | exact .inl (DLe.refl _) | exact .inl (DLe.nil _ _) | (refine .inr ⟨rfl, _, ?_, rfl⟩; rfl) | exact rfl | exact Nat.zero_le _ | constructor)

theorem cloneVip_vc5 (V : List Vip) (hV : V.length ≤ 100) {F : List (Nat × D)} {H : List (Nat × LO)} {G : List Nat × Nat} {K : D → St → Prop} {g : Bool}
    (h : K (.grow 5) ⟨F, (5, .grow Vip 79 5 vipD V) :: H, 6, G⟩) : CallVC Tryz.prog g 117 [rowsV V] ⟨F, H, 5, G⟩ K := by
  refine freshToIn [] Tryz.func117 rfl (by kernel_rfl) (Nat.le_of_ble_eq_true rfl) (by decide) rfl ?_
  conv => whnf
  intro b hb
  conv => whnf
  refine Fork.intro (fun h1 => ?_) (fun h1 => ?_)
  · have e := hb h1
    subst e
    conv => whnf
    refine ⟨[], [5], .grow 5, [(5, .grow Vip 79 5 vipD [])], 6, ?_, rfl, rfl, h⟩
    repeat' (first | exact trivial | exact .inl (DLe.refl _) | exact .inl (DLe.nil _ _) | (refine .inr ⟨rfl, _, ?_, rfl⟩; rfl) | exact rfl | exact Nat.zero_le _ | constructor)
  · conv => whnf
    refine ⟨Vip, vipD, V, rfl, fun _ => rfl, by omega, by show V.length * 24 ≤ _; omega, rfl, ?_⟩
    conv => whnf
    refine ⟨[(5, 6)], [], .grow 5, [(5, .grow Vip 79 5 vipD V)], 6, ?_, rfl, rfl, h⟩
    repeat' (first | exact trivial | exact .inl (DLe.refl _) | exact .inl (DLe.nil _ _) | (refine .inr ⟨rfl, _, ?_, rfl⟩; rfl) | exact rfl | exact Nat.zero_le _ | constructor)

theorem cloneVip_vc6 (V : List Vip) (hV : V.length ≤ 100) {F : List (Nat × D)} {H : List (Nat × LO)} {G : List Nat × Nat} {K : D → St → Prop} {g : Bool}
    (h : K (.grow 6) ⟨F, (6, .grow Vip 79 5 vipD V) :: H, 7, G⟩) : CallVC Tryz.prog g 117 [rowsV V] ⟨F, H, 6, G⟩ K := by
  refine freshToIn [] Tryz.func117 rfl (by kernel_rfl) (Nat.le_of_ble_eq_true rfl) (by decide) rfl ?_
  conv => whnf
  intro b hb
  conv => whnf
  refine Fork.intro (fun h1 => ?_) (fun h1 => ?_)
  · have e := hb h1
    subst e
    conv => whnf
    refine ⟨[], [6], .grow 6, [(6, .grow Vip 79 5 vipD [])], 7, ?_, rfl, rfl, h⟩
    repeat' (first | exact trivial | exact .inl (DLe.refl _) | exact .inl (DLe.nil _ _) | (refine .inr ⟨rfl, _, ?_, rfl⟩; rfl) | exact rfl | exact Nat.zero_le _ | constructor)
  · conv => whnf
    refine ⟨Vip, vipD, V, rfl, fun _ => rfl, by omega, by show V.length * 24 ≤ _; omega, rfl, ?_⟩
    conv => whnf
    refine ⟨[(6, 7)], [], .grow 6, [(6, .grow Vip 79 5 vipD V)], 7, ?_, rfl, rfl, h⟩
    repeat' (first | exact trivial | exact .inl (DLe.refl _) | exact .inl (DLe.nil _ _) | (refine .inr ⟨rfl, _, ?_, rfl⟩; rfl) | exact rfl | exact Nat.zero_le _ | constructor)

theorem cloneVip_vc7 (V : List Vip) (hV : V.length ≤ 100) {F : List (Nat × D)} {H : List (Nat × LO)} {G : List Nat × Nat} {K : D → St → Prop} {g : Bool}
    (h : K (.grow 7) ⟨F, (7, .grow Vip 79 5 vipD V) :: H, 8, G⟩) : CallVC Tryz.prog g 117 [rowsV V] ⟨F, H, 7, G⟩ K := by
  refine freshToIn [] Tryz.func117 rfl (by kernel_rfl) (Nat.le_of_ble_eq_true rfl) (by decide) rfl ?_
  conv => whnf
  intro b hb
  conv => whnf
  refine Fork.intro (fun h1 => ?_) (fun h1 => ?_)
  · have e := hb h1
    subst e
    conv => whnf
    refine ⟨[], [7], .grow 7, [(7, .grow Vip 79 5 vipD [])], 8, ?_, rfl, rfl, h⟩
    repeat' (first | exact trivial | exact .inl (DLe.refl _) | exact .inl (DLe.nil _ _) | (refine .inr ⟨rfl, _, ?_, rfl⟩; rfl) | exact rfl | exact Nat.zero_le _ | constructor)
  · conv => whnf
    refine ⟨Vip, vipD, V, rfl, fun _ => rfl, by omega, by show V.length * 24 ≤ _; omega, rfl, ?_⟩
    conv => whnf
    refine ⟨[(7, 8)], [], .grow 7, [(7, .grow Vip 79 5 vipD V)], 8, ?_, rfl, rfl, h⟩
    repeat' (first | exact trivial | exact .inl (DLe.refl _) | exact .inl (DLe.nil _ _) | (refine .inr ⟨rfl, _, ?_, rfl⟩; rfl) | exact rfl | exact Nat.zero_le _ | constructor)

theorem cloneBack_vc5 (V : List Back) (hV : V.length ≤ 100) {F : List (Nat × D)} {H : List (Nat × LO)} {G : List Nat × Nat} {K : D → St → Prop} {g : Bool}
    (h : K (.grow 5) ⟨F, (5, .grow Back 81 6 backD V) :: H, 6, G⟩) : CallVC Tryz.prog g 118 [rowsB V] ⟨F, H, 5, G⟩ K := by
  refine freshToIn [] Tryz.func118 rfl (by kernel_rfl) (Nat.le_of_ble_eq_true rfl) (by decide) rfl ?_
  conv => whnf
  intro b hb
  conv => whnf
  refine Fork.intro (fun h1 => ?_) (fun h1 => ?_)
  · have e := hb h1
    subst e
    conv => whnf
    refine ⟨[], [5], .grow 5, [(5, .grow Back 81 6 backD [])], 6, ?_, rfl, rfl, h⟩
    repeat' (first | exact trivial | exact .inl (DLe.refl _) | exact .inl (DLe.nil _ _) | (refine .inr ⟨rfl, _, ?_, rfl⟩; rfl) | exact rfl | exact Nat.zero_le _ | constructor)
  · conv => whnf
    refine ⟨Back, backD, V, rfl, fun _ => rfl, by omega, by show V.length * 48 ≤ _; omega, rfl, ?_⟩
    conv => whnf
    refine ⟨[(5, 6)], [], .grow 5, [(5, .grow Back 81 6 backD V)], 6, ?_, rfl, rfl, h⟩
    repeat' (first | exact trivial | exact .inl (DLe.refl _) | exact .inl (DLe.nil _ _) | (refine .inr ⟨rfl, _, ?_, rfl⟩; rfl) | exact rfl | exact Nat.zero_le _ | constructor)

theorem cloneBack_vc6 (V : List Back) (hV : V.length ≤ 100) {F : List (Nat × D)} {H : List (Nat × LO)} {G : List Nat × Nat} {K : D → St → Prop} {g : Bool}
    (h : K (.grow 6) ⟨F, (6, .grow Back 81 6 backD V) :: H, 7, G⟩) : CallVC Tryz.prog g 118 [rowsB V] ⟨F, H, 6, G⟩ K := by
  refine freshToIn [] Tryz.func118 rfl (by kernel_rfl) (Nat.le_of_ble_eq_true rfl) (by decide) rfl ?_
  conv => whnf
  intro b hb
  conv => whnf
  refine Fork.intro (fun h1 => ?_) (fun h1 => ?_)
  · have e := hb h1
    subst e
    conv => whnf
    refine ⟨[], [6], .grow 6, [(6, .grow Back 81 6 backD [])], 7, ?_, rfl, rfl, h⟩
    repeat' (first | exact trivial | exact .inl (DLe.refl _) | exact .inl (DLe.nil _ _) | (refine .inr ⟨rfl, _, ?_, rfl⟩; rfl) | exact rfl | exact Nat.zero_le _ | constructor)
  · conv => whnf
    refine ⟨Back, backD, V, rfl, fun _ => rfl, by omega, by show V.length * 48 ≤ _; omega, rfl, ?_⟩
    conv => whnf
    refine ⟨[(6, 7)], [], .grow 6, [(6, .grow Back 81 6 backD V)], 7, ?_, rfl, rfl, h⟩
    repeat' (first | exact trivial | exact .inl (DLe.refl _) | exact .inl (DLe.nil _ _) | (refine .inr ⟨rfl, _, ?_, rfl⟩; rfl) | exact rfl | exact Nat.zero_le _ | constructor)

theorem cloneBack_vc7 (V : List Back) (hV : V.length ≤ 100) {F : List (Nat × D)} {H : List (Nat × LO)} {G : List Nat × Nat} {K : D → St → Prop} {g : Bool}
    (h : K (.grow 7) ⟨F, (7, .grow Back 81 6 backD V) :: H, 8, G⟩) : CallVC Tryz.prog g 118 [rowsB V] ⟨F, H, 7, G⟩ K := by
  refine freshToIn [] Tryz.func118 rfl (by kernel_rfl) (Nat.le_of_ble_eq_true rfl) (by decide) rfl ?_
  conv => whnf
  intro b hb
  conv => whnf
  refine Fork.intro (fun h1 => ?_) (fun h1 => ?_)
  · have e := hb h1
    subst e
    conv => whnf
    refine ⟨[], [7], .grow 7, [(7, .grow Back 81 6 backD [])], 8, ?_, rfl, rfl, h⟩
    repeat' (first | exact trivial | exact .inl (DLe.refl _) | exact .inl (DLe.nil _ _) | (refine .inr ⟨rfl, _, ?_, rfl⟩; rfl) | exact rfl | exact Nat.zero_le _ | constructor)
  · conv => whnf
    refine ⟨Back, backD, V, rfl, fun _ => rfl, by omega, by show V.length * 48 ≤ _; omega, rfl, ?_⟩
    conv => whnf
    refine ⟨[(7, 8)], [], .grow 7, [(7, .grow Back 81 6 backD V)], 8, ?_, rfl, rfl, h⟩
    repeat' (first | exact trivial | exact .inl (DLe.refl _) | exact .inl (DLe.nil _ _) | (refine .inr ⟨rfl, _, ?_, rfl⟩; rfl) | exact rfl | exact Nat.zero_le _ | constructor)

theorem cloneBack_vc8 (V : List Back) (hV : V.length ≤ 100) {F : List (Nat × D)} {H : List (Nat × LO)} {G : List Nat × Nat} {K : D → St → Prop} {g : Bool}
    (h : K (.grow 8) ⟨F, (8, .grow Back 81 6 backD V) :: H, 9, G⟩) : CallVC Tryz.prog g 118 [rowsB V] ⟨F, H, 8, G⟩ K := by
  refine freshToIn [] Tryz.func118 rfl (by kernel_rfl) (Nat.le_of_ble_eq_true rfl) (by decide) rfl ?_
  conv => whnf
  intro b hb
  conv => whnf
  refine Fork.intro (fun h1 => ?_) (fun h1 => ?_)
  · have e := hb h1
    subst e
    conv => whnf
    refine ⟨[], [8], .grow 8, [(8, .grow Back 81 6 backD [])], 9, ?_, rfl, rfl, h⟩
    repeat' (first | exact trivial | exact .inl (DLe.refl _) | exact .inl (DLe.nil _ _) | (refine .inr ⟨rfl, _, ?_, rfl⟩; rfl) | exact rfl | exact Nat.zero_le _ | constructor)
  · conv => whnf
    refine ⟨Back, backD, V, rfl, fun _ => rfl, by omega, by show V.length * 48 ≤ _; omega, rfl, ?_⟩
    conv => whnf
    refine ⟨[(8, 9)], [], .grow 8, [(8, .grow Back 81 6 backD V)], 9, ?_, rfl, rfl, h⟩
    repeat' (first | exact trivial | exact .inl (DLe.refl _) | exact .inl (DLe.nil _ _) | (refine .inr ⟨rfl, _, ?_, rfl⟩; rfl) | exact rfl | exact Nat.zero_le _ | constructor)

theorem own_vc2 (V : List Vip) (B : List Back) (hV : V.length ≤ 100) (hB : B.length ≤ 100) {F : List (Nat × D)} {H : List (Nat × LO)} {G : List Nat × Nat} {K : D → St → Prop} {g : Bool}
    (h : K (.agg [.grow 2, .grow 3]) ⟨F, ((2, .grow Vip 79 5 vipD V) :: (3, .grow Back 81 6 backD B) :: H), 4, G⟩) : CallVC Tryz.prog g 104 [farmD V B] ⟨F, H, 2, G⟩ K := by
  refine freshToIn [(1, [0,1,3,4,2,5,6,7])] Tryz.func104 rfl (by kernel_rfl) (Nat.le_of_ble_eq_true rfl) (by decide) rfl ?_
  conv => whnf
  refine cloneVip_vc4 V hV ?_
  conv => whnf
  refine cloneBack_vc5 B hB ?_
  conv => whnf
  refine ⟨[(2, 4), (3, 5)], [], .agg [.grow 2, .grow 3], [(2, .grow Vip 79 5 vipD V), (3, .grow Back 81 6 backD B)], 4, ?_, rfl, rfl, h⟩
  repeat' (first | exact trivial | exact .inl (DLe.refl _) | exact .inl (DLe.nil _ _) | (refine .inr ⟨rfl, _, ?_, rfl⟩; rfl) | exact rfl | exact Nat.zero_le _ | constructor)

theorem own_vc3 (V : List Vip) (B : List Back) (hV : V.length ≤ 100) (hB : B.length ≤ 100) {F : List (Nat × D)} {H : List (Nat × LO)} {G : List Nat × Nat} {K : D → St → Prop} {g : Bool}
    (h : K (.agg [.grow 3, .grow 4]) ⟨F, ((3, .grow Vip 79 5 vipD V) :: (4, .grow Back 81 6 backD B) :: H), 5, G⟩) : CallVC Tryz.prog g 104 [farmD V B] ⟨F, H, 3, G⟩ K := by
  refine freshToIn [(1, [0,1,3,4,2,5,6,7])] Tryz.func104 rfl (by kernel_rfl) (Nat.le_of_ble_eq_true rfl) (by decide) rfl ?_
  conv => whnf
  refine cloneVip_vc5 V hV ?_
  conv => whnf
  refine cloneBack_vc6 B hB ?_
  conv => whnf
  refine ⟨[(3, 5), (4, 6)], [], .agg [.grow 3, .grow 4], [(3, .grow Vip 79 5 vipD V), (4, .grow Back 81 6 backD B)], 5, ?_, rfl, rfl, h⟩
  repeat' (first | exact trivial | exact .inl (DLe.refl _) | exact .inl (DLe.nil _ _) | (refine .inr ⟨rfl, _, ?_, rfl⟩; rfl) | exact rfl | exact Nat.zero_le _ | constructor)

theorem own_vc4 (V : List Vip) (B : List Back) (hV : V.length ≤ 100) (hB : B.length ≤ 100) {F : List (Nat × D)} {H : List (Nat × LO)} {G : List Nat × Nat} {K : D → St → Prop} {g : Bool}
    (h : K (.agg [.grow 4, .grow 5]) ⟨F, ((4, .grow Vip 79 5 vipD V) :: (5, .grow Back 81 6 backD B) :: H), 6, G⟩) : CallVC Tryz.prog g 104 [farmD V B] ⟨F, H, 4, G⟩ K := by
  refine freshToIn [(1, [0,1,3,4,2,5,6,7])] Tryz.func104 rfl (by kernel_rfl) (Nat.le_of_ble_eq_true rfl) (by decide) rfl ?_
  conv => whnf
  refine cloneVip_vc6 V hV ?_
  conv => whnf
  refine cloneBack_vc7 B hB ?_
  conv => whnf
  refine ⟨[(4, 6), (5, 7)], [], .agg [.grow 4, .grow 5], [(4, .grow Vip 79 5 vipD V), (5, .grow Back 81 6 backD B)], 6, ?_, rfl, rfl, h⟩
  repeat' (first | exact trivial | exact .inl (DLe.refl _) | exact .inl (DLe.nil _ _) | (refine .inr ⟨rfl, _, ?_, rfl⟩; rfl) | exact rfl | exact Nat.zero_le _ | constructor)

theorem own_vc5 (V : List Vip) (B : List Back) (hV : V.length ≤ 100) (hB : B.length ≤ 100) {F : List (Nat × D)} {H : List (Nat × LO)} {G : List Nat × Nat} {K : D → St → Prop} {g : Bool}
    (h : K (.agg [.grow 5, .grow 6]) ⟨F, ((5, .grow Vip 79 5 vipD V) :: (6, .grow Back 81 6 backD B) :: H), 7, G⟩) : CallVC Tryz.prog g 104 [farmD V B] ⟨F, H, 5, G⟩ K := by
  refine freshToIn [(1, [0,1,3,4,2,5,6,7])] Tryz.func104 rfl (by kernel_rfl) (Nat.le_of_ble_eq_true rfl) (by decide) rfl ?_
  conv => whnf
  refine cloneVip_vc7 V hV ?_
  conv => whnf
  refine cloneBack_vc8 B hB ?_
  conv => whnf
  refine ⟨[(5, 7), (6, 8)], [], .agg [.grow 5, .grow 6], [(5, .grow Vip 79 5 vipD V), (6, .grow Back 81 6 backD B)], 7, ?_, rfl, rfl, h⟩
  repeat' (first | exact trivial | exact .inl (DLe.refl _) | exact .inl (DLe.nil _ _) | (refine .inr ⟨rfl, _, ?_, rfl⟩; rfl) | exact rfl | exact Nat.zero_le _ | constructor)
end Go.Proofs.YtooaeccmkgockaaGreatDoor.V
namespace Go.Proofs.YtooaeccmkgockaaGreatDoor.V
open Go.Shelf
def sortVL_ren : Go.Shelf.Ren := ⟨fun | 6 => 105 | 15 => 120 | 14 => 119 | 28 => 131 | 29 => 132 | 20 => 123 | 21 => 124 | 22 => 125 | 23 => 126 | 24 => 127 | 25 => 128 | 26 => 129 | 27 => 130 | 46 => 141 | 47 => 142 | 48 => 143 | 49 => 144 | 50 => 145 | 57 => 149 | n => n, fun | 22 => 42 | 24 => 79 | 25 => 135 | 3 => 3 | 39 => 97 | 0 => 0 | 53 => 23 | 55 => 22 | 4 => 4 | 46 => 155 | 45 => 154 | 50 => 159 | 5 => 5 | 9 => 9 | 66 => 168 | 70 => 172 | 76 => 176 | 77 => 100 | n => n, fun | n => n⟩
theorem sortVL : Go.Proofs.SlLaysF0.n6 Tryz.prog sortVL_ren := {
  mixed := by kernel_rfl
  f6 := ⟨Tryz.f105.name, by decide, Tryz.func105.trans (congrArg some (by kernel_rfl))⟩
  f14 := ⟨Tryz.f119.name, by decide, Tryz.func119.trans (congrArg some (by kernel_rfl))⟩
  f15 := Tryz.func120.trans (congrArg some (by kernel_rfl))
  f20 := ⟨Tryz.f123.name, by decide, Tryz.func123.trans (congrArg some (by kernel_rfl))⟩
  f21 := ⟨Tryz.f124.name, by decide, Tryz.func124.trans (congrArg some (by kernel_rfl))⟩
  f22 := ⟨Tryz.f125.name, by decide, Tryz.func125.trans (congrArg some (by kernel_rfl))⟩
  f23 := ⟨Tryz.f126.name, by decide, Tryz.func126.trans (congrArg some (by kernel_rfl))⟩
  f24 := ⟨Tryz.f127.name, by decide, Tryz.func127.trans (congrArg some (by kernel_rfl))⟩
  f25 := ⟨Tryz.f128.name, by decide, Tryz.func128.trans (congrArg some (by kernel_rfl))⟩
  f26 := ⟨Tryz.f129.name, by decide, Tryz.func129.trans (congrArg some (by kernel_rfl))⟩
  f27 := ⟨Tryz.f130.name, by decide, Tryz.func130.trans (congrArg some (by kernel_rfl))⟩
  f28 := Tryz.func131.trans (congrArg some (by kernel_rfl))
  f29 := Tryz.func132.trans (congrArg some (by kernel_rfl))
  f46 := ⟨Tryz.f141.name, by decide, Tryz.func141.trans (congrArg some (by kernel_rfl))⟩
  f47 := Tryz.func142.trans (congrArg some (by kernel_rfl))
  f48 := Tryz.func143.trans (congrArg some (by kernel_rfl))
  f49 := ⟨Tryz.f144.name, by decide, Tryz.func144.trans (congrArg some (by kernel_rfl))⟩
  f50 := ⟨Tryz.f145.name, by decide, Tryz.func145.trans (congrArg some (by kernel_rfl))⟩
  f57 := ⟨Tryz.f149.name, by decide, Tryz.func149.trans (congrArg some (by kernel_rfl))⟩
  t0 := Tryz.underlying0
  a0 := Tryz.isAgg0
  z0 := Tryz.sizeOf0
  v0 := Tryz.zeroValue0
  t3 := Tryz.underlying3
  a3 := Tryz.isAgg3
  z3 := Tryz.sizeOf3
  v3 := Tryz.zeroValue3
  t4 := Tryz.underlying4
  a4 := Tryz.isAgg4
  z4 := Tryz.sizeOf4
  v4 := Tryz.zeroValue4
  t5 := Tryz.underlying5
  a5 := Tryz.isAgg5
  z5 := Tryz.sizeOf5
  v5 := Tryz.zeroValue5
  t9 := Tryz.underlying9
  a9 := Tryz.isAgg9
  z9 := Tryz.sizeOf9
  v9 := Tryz.zeroValue9
  t22 := Tryz.underlying42
  a22 := Tryz.isAgg42
  z22 := Tryz.sizeOf42
  v22 := Tryz.zeroValue42
  t25 := Tryz.underlying135
  a25 := Tryz.isAgg135
  z25 := Tryz.sizeOf135
  v25 := Tryz.zeroValue135
  t39 := Tryz.underlying97
  a39 := Tryz.isAgg97
  z39 := Tryz.sizeOf97
  v39 := Tryz.zeroValue97
  t45 := Tryz.underlying154
  a45 := Tryz.isAgg154
  z45 := Tryz.sizeOf154
  v45 := Tryz.zeroValue154
  t46 := Tryz.underlying155
  a46 := Tryz.isAgg155
  z46 := Tryz.sizeOf155
  v46 := Tryz.zeroValue155
  t50 := Tryz.underlying159
  a50 := Tryz.isAgg159
  z50 := Tryz.sizeOf159
  v50 := Tryz.zeroValue159
  t53 := Tryz.underlying23
  a53 := Tryz.isAgg23
  z53 := Tryz.sizeOf23
  v53 := Tryz.zeroValue23
  t55 := Tryz.underlying22
  a55 := Tryz.isAgg22
  z55 := Tryz.sizeOf22
  v55 := Tryz.zeroValue22
  t66 := Tryz.underlying168
  a66 := Tryz.isAgg168
  z66 := Tryz.sizeOf168
  v66 := Tryz.zeroValue168
  t70 := Tryz.underlying172
  a70 := Tryz.isAgg172
  z70 := Tryz.sizeOf172
  v70 := Tryz.zeroValue172
  t76 := Tryz.underlying176
  a76 := Tryz.isAgg176
  z76 := Tryz.sizeOf176
  v76 := Tryz.zeroValue176
  t77 := Tryz.underlying100
  a77 := Tryz.isAgg100
  z77 := Tryz.sizeOf100
  v77 := Tryz.zeroValue100 }
def sortBL_ren : Go.Shelf.Ren := ⟨fun | 6 => 108 | 15 => 120 | 14 => 122 | 28 => 131 | 29 => 132 | 20 => 133 | 21 => 134 | 22 => 135 | 23 => 136 | 24 => 137 | 25 => 138 | 26 => 139 | 27 => 140 | 46 => 146 | 47 => 142 | 48 => 143 | 49 => 147 | 50 => 148 | 57 => 150 | n => n, fun | 22 => 43 | 24 => 81 | 25 => 137 | 3 => 3 | 39 => 97 | 0 => 0 | 53 => 23 | 55 => 22 | 4 => 4 | 46 => 155 | 45 => 154 | 50 => 159 | 5 => 5 | 9 => 9 | 66 => 168 | 70 => 172 | 76 => 176 | 77 => 100 | n => n, fun | n => n⟩
theorem sortBL : Go.Proofs.SlLaysF0.n6 Tryz.prog sortBL_ren := {
  mixed := by kernel_rfl
  f6 := ⟨Tryz.f108.name, by decide, Tryz.func108.trans (congrArg some (by kernel_rfl))⟩
  f14 := ⟨Tryz.f122.name, by decide, Tryz.func122.trans (congrArg some (by kernel_rfl))⟩
  f15 := Tryz.func120.trans (congrArg some (by kernel_rfl))
  f20 := ⟨Tryz.f133.name, by decide, Tryz.func133.trans (congrArg some (by kernel_rfl))⟩
  f21 := ⟨Tryz.f134.name, by decide, Tryz.func134.trans (congrArg some (by kernel_rfl))⟩
  f22 := ⟨Tryz.f135.name, by decide, Tryz.func135.trans (congrArg some (by kernel_rfl))⟩
  f23 := ⟨Tryz.f136.name, by decide, Tryz.func136.trans (congrArg some (by kernel_rfl))⟩
  f24 := ⟨Tryz.f137.name, by decide, Tryz.func137.trans (congrArg some (by kernel_rfl))⟩
  f25 := ⟨Tryz.f138.name, by decide, Tryz.func138.trans (congrArg some (by kernel_rfl))⟩
  f26 := ⟨Tryz.f139.name, by decide, Tryz.func139.trans (congrArg some (by kernel_rfl))⟩
  f27 := ⟨Tryz.f140.name, by decide, Tryz.func140.trans (congrArg some (by kernel_rfl))⟩
  f28 := Tryz.func131.trans (congrArg some (by kernel_rfl))
  f29 := Tryz.func132.trans (congrArg some (by kernel_rfl))
  f46 := ⟨Tryz.f146.name, by decide, Tryz.func146.trans (congrArg some (by kernel_rfl))⟩
  f47 := Tryz.func142.trans (congrArg some (by kernel_rfl))
  f48 := Tryz.func143.trans (congrArg some (by kernel_rfl))
  f49 := ⟨Tryz.f147.name, by decide, Tryz.func147.trans (congrArg some (by kernel_rfl))⟩
  f50 := ⟨Tryz.f148.name, by decide, Tryz.func148.trans (congrArg some (by kernel_rfl))⟩
  f57 := ⟨Tryz.f150.name, by decide, Tryz.func150.trans (congrArg some (by kernel_rfl))⟩
  t0 := Tryz.underlying0
  a0 := Tryz.isAgg0
  z0 := Tryz.sizeOf0
  v0 := Tryz.zeroValue0
  t3 := Tryz.underlying3
  a3 := Tryz.isAgg3
  z3 := Tryz.sizeOf3
  v3 := Tryz.zeroValue3
  t4 := Tryz.underlying4
  a4 := Tryz.isAgg4
  z4 := Tryz.sizeOf4
  v4 := Tryz.zeroValue4
  t5 := Tryz.underlying5
  a5 := Tryz.isAgg5
  z5 := Tryz.sizeOf5
  v5 := Tryz.zeroValue5
  t9 := Tryz.underlying9
  a9 := Tryz.isAgg9
  z9 := Tryz.sizeOf9
  v9 := Tryz.zeroValue9
  t22 := Tryz.underlying43
  a22 := Tryz.isAgg43
  z22 := Tryz.sizeOf43
  v22 := Tryz.zeroValue43
  t25 := Tryz.underlying137
  a25 := Tryz.isAgg137
  z25 := Tryz.sizeOf137
  v25 := Tryz.zeroValue137
  t39 := Tryz.underlying97
  a39 := Tryz.isAgg97
  z39 := Tryz.sizeOf97
  v39 := Tryz.zeroValue97
  t45 := Tryz.underlying154
  a45 := Tryz.isAgg154
  z45 := Tryz.sizeOf154
  v45 := Tryz.zeroValue154
  t46 := Tryz.underlying155
  a46 := Tryz.isAgg155
  z46 := Tryz.sizeOf155
  v46 := Tryz.zeroValue155
  t50 := Tryz.underlying159
  a50 := Tryz.isAgg159
  z50 := Tryz.sizeOf159
  v50 := Tryz.zeroValue159
  t53 := Tryz.underlying23
  a53 := Tryz.isAgg23
  z53 := Tryz.sizeOf23
  v53 := Tryz.zeroValue23
  t55 := Tryz.underlying22
  a55 := Tryz.isAgg22
  z55 := Tryz.sizeOf22
  v55 := Tryz.zeroValue22
  t66 := Tryz.underlying168
  a66 := Tryz.isAgg168
  z66 := Tryz.sizeOf168
  v66 := Tryz.zeroValue168
  t70 := Tryz.underlying172
  a70 := Tryz.isAgg172
  z70 := Tryz.sizeOf172
  v70 := Tryz.zeroValue172
  t76 := Tryz.underlying176
  a76 := Tryz.isAgg176
  z76 := Tryz.sizeOf176
  v76 := Tryz.zeroValue176
  t77 := Tryz.underlying100
  a77 := Tryz.isAgg100
  z77 := Tryz.sizeOf100
  v77 := Tryz.zeroValue100 }
def lays156_ren : Go.Shelf.Ren := ⟨fun | 156 => 38 | 165 => 55 | 166 => 46 | 169 => 47 | 240 => 71 | 241 => 80 | 276 => 93 | 277 => 102 | n => n, fun | 31 => 57 | 9 => 9 | 3 => 3 | 4 => 4 | 0 => 0 | 20 => 20 | 72 => 88 | 76 => 92 | 70 => 85 | 37 => 86 | 75 => 91 | 127 => 114 | 164 => 127 | 5 => 5 | 80 => 94 | n => n, fun | n => n⟩
theorem lays156 : Go.Proofs.Lays.n156 Tryz.prog lays156_ren := {
  mixed := by kernel_rfl
  f156 := Tryz.func38.trans (congrArg some (by kernel_rfl))
  f165 := Tryz.func55.trans (congrArg some (by kernel_rfl))
  f166 := Tryz.func46.trans (congrArg some (by kernel_rfl))
  f169 := Tryz.func47.trans (congrArg some (by kernel_rfl))
  f240 := Tryz.func71.trans (congrArg some (by kernel_rfl))
  f241 := Tryz.func80.trans (congrArg some (by kernel_rfl))
  f276 := Tryz.func93.trans (congrArg some (by kernel_rfl))
  f277 := Tryz.func102.trans (congrArg some (by kernel_rfl))
  t0 := Tryz.underlying0
  a0 := Tryz.isAgg0
  z0 := Tryz.sizeOf0
  v0 := Tryz.zeroValue0
  t3 := Tryz.underlying3
  a3 := Tryz.isAgg3
  z3 := Tryz.sizeOf3
  v3 := Tryz.zeroValue3
  t4 := Tryz.underlying4
  a4 := Tryz.isAgg4
  z4 := Tryz.sizeOf4
  v4 := Tryz.zeroValue4
  t9 := Tryz.underlying9
  a9 := Tryz.isAgg9
  z9 := Tryz.sizeOf9
  v9 := Tryz.zeroValue9
  t20 := Tryz.underlying20
  a20 := Tryz.isAgg20
  z20 := Tryz.sizeOf20
  v20 := Tryz.zeroValue20
  t31 := Tryz.underlying57
  a31 := Tryz.isAgg57
  z31 := Tryz.sizeOf57
  v31 := Tryz.zeroValue57
  t37 := Tryz.underlying86
  a37 := Tryz.isAgg86
  z37 := Tryz.sizeOf86
  v37 := Tryz.zeroValue86
  t70 := Tryz.underlying85
  a70 := Tryz.isAgg85
  z70 := Tryz.sizeOf85
  v70 := Tryz.zeroValue85
  t72 := Tryz.underlying88
  a72 := Tryz.isAgg88
  z72 := Tryz.sizeOf88
  v72 := Tryz.zeroValue88
  t75 := Tryz.underlying91
  a75 := Tryz.isAgg91
  z75 := Tryz.sizeOf91
  v75 := Tryz.zeroValue91
  t76 := Tryz.underlying92
  a76 := Tryz.isAgg92
  z76 := Tryz.sizeOf92
  v76 := Tryz.zeroValue92
  t127 := Tryz.underlying114
  a127 := Tryz.isAgg114
  z127 := Tryz.sizeOf114
  v127 := Tryz.zeroValue114
  t164 := Tryz.underlying127
  a164 := Tryz.isAgg127
  z164 := Tryz.sizeOf127
  v164 := Tryz.zeroValue127 }
def lays219_ren : Go.Shelf.Ren := ⟨fun | 219 => 79 | 217 => 98 | 225 => 99 | 224 => 100 | 267 => 101 | 266 => 115 | 314 => 116 | n => n, fun | 9 => 9 | 3 => 3 | 4 => 4 | 5 => 5 | 46 => 97 | 146 => 142 | 51 => 23 | n => n, fun | 1 => 0 | n => n⟩
theorem lays219 : Go.Proofs.Lays.n219 Tryz.prog lays219_ren := {
  mixed := by kernel_rfl
  f217 := Tryz.func98.trans (congrArg some (by kernel_rfl))
  f219 := Tryz.func79.trans (congrArg some (by kernel_rfl))
  f224 := Tryz.func100.trans (congrArg some (by kernel_rfl))
  f225 := Tryz.func99.trans (congrArg some (by kernel_rfl))
  f266 := Tryz.func115.trans (congrArg some (by kernel_rfl))
  f267 := Tryz.func101.trans (congrArg some (by kernel_rfl))
  f314 := Tryz.func116.trans (congrArg some (by kernel_rfl))
  t3 := Tryz.underlying3
  a3 := Tryz.isAgg3
  z3 := Tryz.sizeOf3
  v3 := Tryz.zeroValue3
  t4 := Tryz.underlying4
  a4 := Tryz.isAgg4
  z4 := Tryz.sizeOf4
  v4 := Tryz.zeroValue4
  t5 := Tryz.underlying5
  a5 := Tryz.isAgg5
  z5 := Tryz.sizeOf5
  v5 := Tryz.zeroValue5
  t9 := Tryz.underlying9
  a9 := Tryz.isAgg9
  z9 := Tryz.sizeOf9
  v9 := Tryz.zeroValue9
  t46 := Tryz.underlying97
  a46 := Tryz.isAgg97
  z46 := Tryz.sizeOf97
  v46 := Tryz.zeroValue97
  t51 := Tryz.underlying23
  a51 := Tryz.isAgg23
  z51 := Tryz.sizeOf23
  v51 := Tryz.zeroValue23
  t146 := Tryz.underlying142
  a146 := Tryz.isAgg142
  z146 := Tryz.sizeOf142
  v146 := Tryz.zeroValue142
  g1 := by kernel_rfl }
def lays221_ren : Go.Shelf.Ren := ⟨fun | 221 => 49 | 268 => 76 | 138 => 77 | 143 => 78 | 195 => 95 | 197 => 96 | 218 => 97 | 219 => 79 | 260 => 114 | 217 => 98 | 225 => 99 | 224 => 100 | 267 => 101 | 266 => 115 | 314 => 116 | n => n, fun | 9 => 9 | 3 => 3 | 31 => 57 | 4 => 4 | 0 => 0 | 105 => 129 | 21 => 21 | 5 => 5 | 46 => 97 | 119 => 149 | 139 => 152 | 138 => 151 | 146 => 142 | 51 => 23 | n => n, fun | 1 => 0 | 3 => 1 | 4 => 2 | n => n⟩
theorem lays221 : Go.Proofs.Lays.n221 Tryz.prog lays221_ren := {
  mixed := by kernel_rfl
  f138 := Tryz.func77.trans (congrArg some (by kernel_rfl))
  f143 := Tryz.func78.trans (congrArg some (by kernel_rfl))
  f195 := Tryz.func95.trans (congrArg some (by kernel_rfl))
  f197 := Tryz.func96.trans (congrArg some (by kernel_rfl))
  f217 := Tryz.func98.trans (congrArg some (by kernel_rfl))
  f218 := Tryz.func97.trans (congrArg some (by kernel_rfl))
  f219 := Tryz.func79.trans (congrArg some (by kernel_rfl))
  f221 := Tryz.func49.trans (congrArg some (by kernel_rfl))
  f224 := Tryz.func100.trans (congrArg some (by kernel_rfl))
  f225 := Tryz.func99.trans (congrArg some (by kernel_rfl))
  f260 := Tryz.func114.trans (congrArg some (by kernel_rfl))
  f266 := Tryz.func115.trans (congrArg some (by kernel_rfl))
  f267 := Tryz.func101.trans (congrArg some (by kernel_rfl))
  f268 := Tryz.func76.trans (congrArg some (by kernel_rfl))
  f314 := Tryz.func116.trans (congrArg some (by kernel_rfl))
  t0 := Tryz.underlying0
  a0 := Tryz.isAgg0
  z0 := Tryz.sizeOf0
  v0 := Tryz.zeroValue0
  t3 := Tryz.underlying3
  a3 := Tryz.isAgg3
  z3 := Tryz.sizeOf3
  v3 := Tryz.zeroValue3
  t4 := Tryz.underlying4
  a4 := Tryz.isAgg4
  z4 := Tryz.sizeOf4
  v4 := Tryz.zeroValue4
  t5 := Tryz.underlying5
  a5 := Tryz.isAgg5
  z5 := Tryz.sizeOf5
  v5 := Tryz.zeroValue5
  t9 := Tryz.underlying9
  a9 := Tryz.isAgg9
  z9 := Tryz.sizeOf9
  v9 := Tryz.zeroValue9
  t21 := Tryz.underlying21
  a21 := Tryz.isAgg21
  z21 := Tryz.sizeOf21
  v21 := Tryz.zeroValue21
  t31 := Tryz.underlying57
  a31 := Tryz.isAgg57
  z31 := Tryz.sizeOf57
  v31 := Tryz.zeroValue57
  t46 := Tryz.underlying97
  a46 := Tryz.isAgg97
  z46 := Tryz.sizeOf97
  v46 := Tryz.zeroValue97
  t51 := Tryz.underlying23
  a51 := Tryz.isAgg23
  z51 := Tryz.sizeOf23
  v51 := Tryz.zeroValue23
  t105 := Tryz.underlying129
  a105 := Tryz.isAgg129
  z105 := Tryz.sizeOf129
  v105 := Tryz.zeroValue129
  t119 := Tryz.underlying149
  a119 := Tryz.isAgg149
  z119 := Tryz.sizeOf149
  t138 := Tryz.underlying151
  a138 := Tryz.isAgg151
  z138 := Tryz.sizeOf151
  v138 := Tryz.zeroValue151
  t139 := Tryz.underlying152
  a139 := Tryz.isAgg152
  z139 := Tryz.sizeOf152
  v139 := Tryz.zeroValue152
  t146 := Tryz.underlying142
  a146 := Tryz.isAgg142
  z146 := Tryz.sizeOf142
  v146 := Tryz.zeroValue142
  g1 := by kernel_rfl
  g3 := by kernel_rfl
  g4 := by kernel_rfl }
end Go.Proofs.YtooaeccmkgockaaGreatDoor.V
namespace Go.Proofs.YtooaeccmkgockaaGreatDoor.V
open Go.RowKit Go.Shelf Go.Sort Go.Lib
attribute [local irreducible] Fn OpVC

abbrev VipS := {v : Vip // 1 ≤ v.id ∧ v.id ≤ 999}
abbrev BackS := {v : Back // 1 ≤ v.id ∧ v.id ≤ 999}
instance : Inhabited VipS := ⟨⟨⟨1, 0, 0, 0, 0⟩, by decide⟩⟩
instance : Inhabited BackS := ⟨⟨⟨1, 0, 0, 0, 0, false⟩, by decide⟩⟩
def vipC (v : VipS) : List Value := [.int .i64 v.val.id, .int .u32 v.val.addr, .int .u16 v.val.port, .int .u8 v.val.proto, .int .i64 v.val.mode]
def backC (b : BackS) : List Value := [.int .i64 b.val.id, .int .i64 b.val.vip, .int .u32 b.val.addr, .int .i64 b.val.weight, .int .i64 b.val.life, .bool b.val.up]
def cfV (x y : VipS) : Int := x.val.id - y.val.id
def cfB (x y : BackS) : Int := x.val.id - y.val.id
theorem ltV (x y : VipS) : ltOf cfV x y = decide (x.val.id < y.val.id) := decide_eq_decide.2 (by unfold cfV; omega)
theorem swoV : SWO (ltOf cfV) where
  irrefl x := by rw [ltV]; simp
  trans x y z h1 h2 := by rw [ltV] at *; exact decide_eq_true (Int.lt_trans (of_decide_eq_true h1) (of_decide_eq_true h2))
  ntrans x y z h1 h2 := by rw [ltV] at *; exact decide_eq_false (by have h1 := of_decide_eq_false h1; have h2 := of_decide_eq_false h2; omega)
theorem ltB (x y : BackS) : ltOf cfB x y = decide (x.val.id < y.val.id) := decide_eq_decide.2 (by unfold cfB; omega)
theorem swoB : SWO (ltOf cfB) where
  irrefl x := by rw [ltB]; simp
  trans x y z h1 h2 := by rw [ltB] at *; exact decide_eq_true (Int.lt_trans (of_decide_eq_true h1) (of_decide_eq_true h2))
  ntrans x y z h1 h2 := by rw [ltB] at *; exact decide_eq_false (by have h1 := of_decide_eq_false h1; have h2 := of_decide_eq_false h2; omega)
theorem cmpV_any (x y : VipS) (W : World) : Calls Tryz.prog 106 #[.agg (vipC x).toArray, .agg (vipC y).toArray] W fun e w' => e = .returned (.int .i64 (cfV x y)) ∧ ∃ q os', w' = grow (W.drewN q) os' := by
  have hw : IntKind.i64.wrap (x.val.id - y.val.id) = cfV x y := by
    have h1 := x.2; have h2 := y.2
    rw [IntWalk.i64_in _ (by omega)]; rfl
  simp only [vipC]
  generalize x.val.id = a at *
  generalize y.val.id = b at *
  generalize cfV x y = r at *
  go_enter Tryz.func106, Tryz.ntmps106
  go_wp2
  go_ret
  exact ⟨rfl, 0, _, by rw [alloc_eq_grow, alloc_eq_grow, grow_grow]; rfl⟩
theorem cmpB_any (x y : BackS) (W : World) : Calls Tryz.prog 109 #[.agg (backC x).toArray, .agg (backC y).toArray] W fun e w' => e = .returned (.int .i64 (cfB x y)) ∧ ∃ q os', w' = grow (W.drewN q) os' := by
  have hw : IntKind.i64.wrap (x.val.id - y.val.id) = cfB x y := by
    have h1 := x.2; have h2 := y.2
    rw [IntWalk.i64_in _ (by omega)]; rfl
  simp only [backC]
  generalize x.val.id = a at *
  generalize y.val.id = b at *
  generalize cfB x y = r at *
  go_enter Tryz.func109, Tryz.ntmps109
  go_wp2
  go_ret
  exact ⟨rfl, 0, _, by rw [alloc_eq_grow, alloc_eq_grow, grow_grow]; rfl⟩

theorem sortV_vc {s : St} {id : Nat} {L S : List Vip} {K : D → St → Prop} (hid : lget s.H id = some (.grow Vip 79 5 vipD L)) (hL : ∀ x, x ∈ L → 1 ≤ x.id ∧ x.id ≤ 999) (hpos : 0 < L.length) (hsz : L.length ≤ 100)
    (hS : S.Pairwise fun x y => x.id < y.id) (hp : S.Perm L) (h : K (.tup []) ⟨s.F, (id, .grow Vip 79 5 vipD S) :: s.H, s.nx, s.G⟩) :
    CallVC Tryz.prog false 105 [.grow id, .fn 106 [] []] s K := by
  obtain ⟨M, rfl⟩ := sub_list L hL
  rw [List.length_map] at hpos hsz
  refine sort_vc sortVL (β := VipS) (val := Subtype.val) vipC (fun _ => rfl) (fun _ => rfl) (by decide) (fun x v hv => by simp [vipC] at hv; rcases hv with rfl | rfl | rfl | rfl | rfl <;> rfl) Tryz.isAgg79 Tryz.sizeOf79 cfV swoV 106 (enters_of Tryz.func106 (by kernel_rfl) rfl) cmpV_any ⟨_, Tryz.func105, rfl⟩ hid hpos (by omega) fun M' hm hs => ?_
  rw [show M'.map Subtype.val = S from sorted_one hS ((hm.map _).trans hp.symm) fun i j x y hij hx hy => by
    obtain ⟨x', hx', rfl⟩ := map_get hx
    obtain ⟨y', hy', rfl⟩ := map_get hy
    have := hs i j x' y' hij hx' hy'
    have h2 : cfV y' x' = y'.val.id - x'.val.id := rfl
    omega]
  exact h
theorem sortB_vc {s : St} {id : Nat} {L S : List Back} {K : D → St → Prop} (hid : lget s.H id = some (.grow Back 81 6 backD L)) (hL : ∀ x, x ∈ L → 1 ≤ x.id ∧ x.id ≤ 999) (hpos : 0 < L.length) (hsz : L.length ≤ 100)
    (hS : S.Pairwise fun x y => x.id < y.id) (hp : S.Perm L) (h : K (.tup []) ⟨s.F, (id, .grow Back 81 6 backD S) :: s.H, s.nx, s.G⟩) :
    CallVC Tryz.prog false 108 [.grow id, .fn 109 [] []] s K := by
  obtain ⟨M, rfl⟩ := sub_list L hL
  rw [List.length_map] at hpos hsz
  refine sort_vc sortBL (β := BackS) (val := Subtype.val) backC (fun _ => rfl) (fun _ => rfl) (by decide) (fun x v hv => by simp [backC] at hv; rcases hv with rfl | rfl | rfl | rfl | rfl | rfl <;> rfl) Tryz.isAgg81 Tryz.sizeOf81 cfB swoB 109 (enters_of Tryz.func109 (by kernel_rfl) rfl) cmpB_any ⟨_, Tryz.func108, rfl⟩ hid hpos (by omega) fun M' hm hs => ?_
  rw [show M'.map Subtype.val = S from sorted_one hS ((hm.map _).trans hp.symm) fun i j x y hij hx hy => by
    obtain ⟨x', hx', rfl⟩ := map_get hx
    obtain ⟨y', hy', rfl⟩ := map_get hy
    have := hs i j x' y' hij hx' hy'
    have h2 : cfB y' x' = y'.val.id - x'.val.id := rfl
    omega]
  exact h

theorem findI_or {α : Type} (p q : α → Bool) (L : List α) : decide (findI (fun x => p x || q x) L ≥ 0) = (decide (findI p L ≥ 0) || decide (findI q L ≥ 0)) := by
  rw [findI_any, findI_any, findI_any]
  induction L with
  | nil => rfl
  | cons x r ih => simp only [List.any_cons, ih]; cases p x <;> cases q x <;> simp
theorem findI_no {α : Type} {p : α → Bool} {L : List α} (h : decide (findI p L ≥ 0) = false) : ∀ x, x ∈ L → p x = false := by
  rw [findI_any] at h
  intro x hx
  cases hp : p x with
  | false => rfl
  | true => rw [List.any_eq_true.2 ⟨x, hx, hp⟩] at h; cases h
theorem goodV_id {v : Vip} (h : goodV v = true) : 1 ≤ v.id ∧ v.id ≤ 99 := by
  unfold goodV at h
  simp only [Bool.and_eq_true, decide_eq_true_eq] at h
  exact ⟨h.1.1.1.1, h.1.1.1.2⟩
theorem goodB_id {v : Back} (h : goodB v = true) : 1 ≤ v.id ∧ v.id ≤ 999 := by
  unfold goodB at h
  simp only [Bool.and_eq_true, decide_eq_true_eq] at h
  exact ⟨h.1.1.1.1.1.1, h.1.1.1.1.1.2⟩

theorem pAddVip_fn (V : List Vip) (B : List Back) (v : Vip) (hv : v.ok) (hR : Right V B) : Fn Tryz.prog 81 [farmD V B, .agg (vipD v)] fun d => d = .tup [farmD (addV V v).1 B, intD (addV V v).2] := by
  have hlV := hR.lv
  have hlB := hR.lb
  refine fnOf [] Tryz.func81 rfl (by kernel_rfl) (Nat.le_of_ble_eq_true rfl) ?_
  conv => whnf
  refine CallVC.snap (containsFuncS_fn V v (fun x _ => addVip1_fn v x) (by omega)) ?_
  rintro _ rfl
  refine ⟨rfl, ?_⟩
  have hmet : decide (findI (metV v) V ≥ 0) = (decide (findI (fun u => decide (u.id = v.id)) V ≥ 0) || decide (findI (sameAt v.addr v.port v.proto) V ≥ 0)) := findI_or (fun u : Vip => decide (u.id = v.id)) (sameAt v.addr v.port v.proto) V
  rw [hmet]
  conv => whnf
  refine CallVC.pure (mayVip_fn v hv) rfl ?_
  rintro _ rfl
  cases h1 : goodV v with
  | false =>
    have e : addV V v = (V, 2) := by unfold addV; rw [h1]
    rw [e]
    conv => whnf
    rfl
  | true =>
    cases h2 : (decide (findI (fun u => decide (u.id = v.id)) V ≥ 0) || decide (findI (sameAt v.addr v.port v.proto) V ≥ 0)) with
    | true =>
      have e : addV V v = (V, 9) := by unfold addV; rw [h1, h2]
      rw [e]
      conv => whnf
      rfl
    | false =>
      conv => whnf
      refine Fork.intro (fun h3 => ?_) (fun h3 => ?_)
      · have h3 : (4 : Int) ≤ V.length := of_decide_eq_true h3
        have e : addV V v = (V, 7) := by unfold addV; rw [h1, h2, decide_eq_true (by omega : (V.length : Int) = 4)]
        rw [e]
        conv => whnf
        rfl
      · have h3 : ¬ (4 : Int) ≤ V.length := of_decide_eq_false h3
        have e : addV V v = (insBy Vip.id v V, 0) := by unfold addV; rw [h1, h2, decide_eq_false (by omega : ¬ (V.length : Int) = 4)]
        rw [e]
        rw [Bool.or_eq_false_iff] at h2
        have hne : ∀ y ∈ V, y.id ≠ v.id := fun y hy => of_decide_eq_false (findI_no h2.1 y hy)
        conv => whnf
        refine own_vc3 V B (by omega) (by omega) ?_
        conv => whnf
        (refine ⟨Nat.le_of_ble_eq_true rfl, ?_⟩; conv => whnf)
        refine ⟨Vip, vipD, V ++ [v], (by rw [List.map_append]; rfl), fun _ => rfl, by simp only [List.length_append, List.length_cons, List.length_nil]; omega, by simp only [List.length_append, List.length_cons, List.length_nil]; omega, rfl, ?_⟩
        conv => whnf
        refine sortV_vc rfl (fun x hx => ?_) (by simp) (by rw [List.length_append, List.length_singleton]; omega) (ins_sorted hR.sv hne) (ins_perm V) ?_
        · rcases List.mem_append.1 hx with hx | hx
          · have := goodV_id (hR.gv x hx); omega
          · rw [List.mem_singleton.1 hx]; have := goodV_id h1; omega
        · conv => whnf
          rfl

theorem pAddBackend_fn (V : List Vip) (B : List Back) (b : Back) (hR : Right V B) : Fn Tryz.prog 82 [farmD V B, .agg (backD b)] fun d => d = .tup [farmD V (addB V B b).1, intD (addB V B b).2] := by
  have hlV := hR.lv
  have hlB := hR.lb
  refine fnOf [] Tryz.func82 rfl (by kernel_rfl) (Nat.le_of_ble_eq_true rfl) ?_
  conv => whnf
  refine CallVC.pure (mayBackend_fn (fresh b)) rfl ?_
  rintro _ rfl
  cases h1 : goodB (fresh b) with
  | false =>
    have e : addB V B b = (B, 2) := by unfold addB; rw [h1]
    rw [e]
    conv => whnf
    rfl
  | true =>
    conv => whnf
    refine CallVC.pure (farmVip_fn V B b.vip (by omega)) rfl ?_
    rintro _ rfl
    cases h2 : decide (findI (fun u => decide (u.id = b.vip)) V < 0) with
    | true =>
      have e : addB V B b = (B, 8) := by unfold addB; rw [h1, h2]
      rw [e]
      conv => whnf
      rw [h2]
      conv => whnf
      rfl
    | false =>
      conv => whnf
      rw [h2]
      conv => whnf
      refine CallVC.pure (backend_fn V B b.id (by omega)) rfl ?_
      rintro _ rfl
      cases h3 : decide (findI (fun u => decide (u.id = b.id)) B ≥ 0) with
      | true =>
        have e : addB V B b = (B, 9) := by unfold addB; rw [h1, h2, h3]
        rw [e]
        conv => whnf
        refine Fork.intro (fun _ => ?_) (fun hh => ?_)
        · conv => whnf
          rfl
        · exact absurd (of_decide_eq_true h3) (of_decide_eq_false hh)
      | false =>
        conv => whnf
        refine Fork.intro (fun hh => ?_) (fun _ => ?_)
        · exact absurd (of_decide_eq_true hh) (of_decide_eq_false h3)
        conv => whnf
        refine Fork.intro (fun h4 => ?_) (fun h4 => ?_)
        · have h4 : (16 : Int) ≤ B.length := of_decide_eq_true h4
          have e : addB V B b = (B, 7) := by unfold addB; rw [h1, h2, h3, decide_eq_true (by omega : (B.length : Int) = 16)]
          rw [e]
          conv => whnf
          rfl
        · have h4 : ¬ (16 : Int) ≤ B.length := of_decide_eq_false h4
          have e : addB V B b = (insBy Back.id (fresh b) B, 0) := by unfold addB; rw [h1, h2, h3, decide_eq_false (by omega : ¬ (B.length : Int) = 16)]
          rw [e]
          have hne : ∀ y ∈ B, y.id ≠ (fresh b).id := fun y hy => of_decide_eq_false (findI_no h3 y hy)
          conv => whnf
          refine own_vc3 V B (by omega) (by omega) ?_
          conv => whnf
          (refine ⟨Nat.le_of_ble_eq_true rfl, ?_⟩; conv => whnf)
          refine ⟨Back, backD, B ++ [fresh b], (by rw [List.map_append]; rfl), fun _ => rfl, by simp only [List.length_append, List.length_cons, List.length_nil]; omega, by simp only [List.length_append, List.length_cons, List.length_nil]; omega, rfl, ?_⟩
          conv => whnf
          refine sortB_vc rfl (fun x hx => ?_) (by simp) (by rw [List.length_append, List.length_singleton]; omega) (ins_sorted hR.sb hne) (ins_perm B) ?_
          · rcases List.mem_append.1 hx with hx | hx
            · exact goodB_id (hR.gb x hx)
            · rw [List.mem_singleton.1 hx]; exact goodB_id h1
          · conv => whnf
            rfl
end Go.Proofs.YtooaeccmkgockaaGreatDoor.V
namespace Go.Proofs.YtooaeccmkgockaaGreatDoor.V
open Go.RowKit
attribute [local irreducible] Fn OpVC

theorem withB_id {b : Back} {no : Bool} : ∀ {L : List Back}, (∀ y, y ∈ L → y.id ≠ b.id) → withB L b no = L
  | [], _ => rfl
  | x :: r, h => by
    have h1 : with1 b no x = [x] := by unfold with1; rw [decide_eq_false (h x List.mem_cons_self)]; rfl
    show with1 b no x ++ withB r b no = _
    rw [h1, withB_id fun y hy => h y (List.mem_cons_of_mem _ hy)]
    rfl
theorem split_at {α : Type} {L : List α} {i : Nat} {x : α} (h : L[i]? = some x) : L = L.take i ++ x :: L.drop (i + 1) := by
  obtain ⟨hi, rfl⟩ := List.getElem?_eq_some_iff.1 h
  rw [← List.drop_eq_getElem_cons hi, List.take_append_drop]
theorem withB_parts {B : List Back} (hs : B.Pairwise fun x y => x.id < y.id) {i : Nat} {x b : Back} (h : B[i]? = some x) (hb : b.id = x.id) (no : Bool) : withB B b no = B.take i ++ with1 b no x ++ B.drop (i + 1) := by
  have hne : ∀ (j : Nat) y, B[j]? = some y → j ≠ i → y.id ≠ b.id := by
    intro j y hy hj
    rcases Nat.lt_or_gt_of_ne hj with h1 | h1
    · have := pairwise_get.1 hs i j x y h1 h hy; omega
    · have := pairwise_get.1 hs j i y x h1 hy h; omega
  have e : withB B b no = withB (B.take i) b no ++ (with1 b no x ++ withB (B.drop (i + 1)) b no) := by
    conv => lhs; rw [split_at h]
    unfold withB
    rw [List.flatMap_append, List.flatMap_cons]
  rw [e, withB_id, withB_id, List.append_assoc]
  · intro y hy
    obtain ⟨j, hj⟩ := List.mem_iff_getElem?.1 hy
    rw [List.getElem?_drop] at hj
    exact hne _ y hj (by omega)
  · intro y hy
    obtain ⟨j, hj⟩ := List.mem_iff_getElem?.1 hy
    have := (List.getElem?_eq_some_iff.1 hj).1
    rw [List.length_take] at this
    rw [List.getElem?_take_of_lt (by omega)] at hj
    exact hne _ y hj (by omega)
theorem change_none {B : List Back} {kind id w : Int} (hk : (decide (kind = 2) && (decide (w < 1) || decide (8 < w))) = false) (h : findI (fun u : Back => decide (u.id = id)) B = -1) : changeB B kind id w = (B, 8) := by
  unfold changeB; rw [hk, h]; rfl
theorem change_some {B : List Back} {kind id w : Int} {i : Nat} {x : Back} (hk : (decide (kind = 2) && (decide (w < 1) || decide (8 < w))) = false) (h : findI (fun u : Back => decide (u.id = id)) B = i) (hx : B[i]? = some x) : changeB B kind id w = (withB B (chg kind w x) (decide (kind = 0)), 0) := by
  unfold changeB
  rw [hk, h, decide_eq_false (by omega : ¬ (i : Int) < 0)]
  simp only [nat_toNat, hx]

theorem src_win {s : St} {id k lo n el : Nat} {α : Type} {enc : α → List D} {L : List α} (h : lget s.H id = some (.grow α el k enc L)) (hl : lo + n ≤ L.length) : srcRows s k (.win id k lo n) = some (((L.drop lo).take n).map enc) := by
  simp only [srcRows, h, Nat.beq_refl, Nat.ble_eq_true_of_le hl]

theorem pRemove_fn (V : List Vip) (B : List Back) (id : Int) (hR : Right V B) : Fn Tryz.prog 83 [farmD V B, intD id] fun d => d = .tup [farmD V (changeB B 0 id 0).1, intD (changeB B 0 id 0).2] := by
  have hlV := hR.lv
  have hlB := hR.lb
  refine fnOf [] Tryz.func83 rfl (by kernel_rfl) (Nat.le_of_ble_eq_true rfl) ?_
  conv => whnf
  refine CallVC.pure (backend_fn V B id (by omega)) rfl ?_
  rintro _ rfl
  rcases found (fun u : Back => decide (u.id = id)) B with ⟨g1, g2⟩ | ⟨i, x, g1, g2, g3⟩
  · rw [g1, change_none rfl g1]
    conv => whnf
    rfl
  · rw [g1, change_some rfl g1 g3, withB_parts (b := chg 0 0 x) hR.sb g3 rfl]
    have hi : i < B.length := (List.getElem?_eq_some_iff.1 g3).1
    conv => whnf
    refine own_vc2 V B (by omega) (by omega) ?_
    conv => whnf
    rw [wrap_next hi (by omega)]
    refine goIn [] Tryz.func110 rfl (by kernel_rfl) (Nat.le_of_ble_eq_true rfl) ?_
    conv => whnf
    refine ⟨rfl, ⟨by omega, by omega, by omega, Int.le_refl _⟩, ?_⟩
    conv => whnf
    refine Fork.intro (fun h => absurd (of_decide_eq_true h) (by omega)) (fun _ => ?_)
    conv => whnf
    refine ⟨rfl, ⟨by omega, by omega⟩, ?_⟩
    conv => whnf
    refine ⟨rfl, ⟨by omega, by omega, Int.le_refl _⟩, ?_⟩
    conv => whnf
    have en : (↑B.length - ↑(i + 1) : Int).toNat = B.length - (i + 1) := by omega
    have hnl : (((B.drop (↑(i + 1) : Int).toNat).take (↑B.length - ↑(i + 1) : Int).toNat).map backD).length = B.length - (i + 1) := by simp; omega
    have hnew : (B.drop (↑(i + 1) : Int).toNat).take (↑B.length - ↑(i + 1) : Int).toNat = B.drop (i + 1) := by
      rw [nat_toNat, en]; exact List.take_of_length_le (by simp)
    rw [hnew] at hnl
    have hlen2 : (B.take i ++ B.drop (i + 1) ++ B.drop (B.length - 1)).length = B.length := by simp; omega
    refine ⟨((B.drop (↑(i + 1) : Int).toNat).take (↑B.length - ↑(i + 1) : Int).toNat).map backD, src_win rfl (by rw [nat_toNat, en]; omega), ?_⟩
    rw [hnew]
    refine ⟨by decide, rfl, by rw [hnl, nat_toNat]; omega, rfl, B.take i ++ B.drop (i + 1) ++ B.drop (B.length - 1), ?_, fun _ => rfl, ?_⟩
    · rw [hnl, nat_toNat, show i + (B.length - (i + 1)) = B.length - 1 by omega, ← List.map_take, ← List.map_drop, List.map_append, List.map_append]
    rw [hnl, show (↑i : Int).toNat + (B.length - (i + 1)) = B.length - 1 by omega]
    conv => whnf
    refine ⟨rfl, ⟨by omega, by omega, by omega, by omega⟩, ?_⟩
    conv => whnf
    refine ⟨rfl, rfl, rfl, by decide, by omega, by omega, ⟨0, 0, 0, 0, 0, false⟩, rfl, rfl, ?_⟩
    conv => whnf
    show D.tup [.agg [rowsV V, snapD (3 + 1) _ (.cut 3 (B.length - 1))], intD 0] = _
    rw [snap_cut rfl (by simp; omega)]
    have e1 : with1 (chg 0 0 x) (decide ((0 : Int) = 0)) x = [] := by
      unfold with1
      rw [decide_eq_true (show x.id = (chg 0 0 x).id from rfl)]
      rfl
    rw [e1, List.append_nil]
    have e2 : (B.take i ++ B.drop (i + 1)).length = B.length - 1 := by simp; omega
    congr 3
    rw [List.append_assoc, List.take_append_of_le_length (by simp; omega), List.take_take]
    rw [show min (B.length - 1) (↑(B.length - 1) : Int).toNat = B.length - 1 by omega, List.take_append_of_le_length (by omega), List.take_of_length_le (by omega)]
end Go.Proofs.YtooaeccmkgockaaGreatDoor.V
namespace Go.Proofs.YtooaeccmkgockaaGreatDoor.V
open Go.RowKit
attribute [local irreducible] Fn OpVC

theorem set_parts {α : Type} {L : List α} {i : Nat} {x y : α} (h : L[i]? = some x) : L.take i ++ [y] ++ L.drop (i + 1) = L.set i y := by
  have hi := (List.getElem?_eq_some_iff.1 h).1
  rw [List.set_eq_take_append_cons_drop, if_pos hi, List.append_assoc]
  rfl
theorem with_chg {B : List Back} (hs : B.Pairwise fun x y => x.id < y.id) {i : Nat} {x : Back} (h : B[i]? = some x) (kind w : Int) (hk : kind ≠ 0) : withB B (chg kind w x) (decide (kind = 0)) = B.set i (chg kind w x) := by
  rw [withB_parts (b := chg kind w x) hs h rfl, ← set_parts h]
  congr 2
  unfold with1
  rw [decide_eq_true (show x.id = (chg kind w x).id from rfl), decide_eq_false hk]
  rfl

theorem pDrain_fn (V : List Vip) (B : List Back) (id : Int) (hR : Right V B) : Fn Tryz.prog 84 [farmD V B, intD id] fun d => d = .tup [farmD V (changeB B 1 id 0).1, intD (changeB B 1 id 0).2] := by
  have hlV := hR.lv
  have hlB := hR.lb
  refine fnOf [] Tryz.func84 rfl (by kernel_rfl) (Nat.le_of_ble_eq_true rfl) ?_
  conv => whnf
  refine goIn [] Tryz.func111 rfl (by kernel_rfl) (Nat.le_of_ble_eq_true rfl) ?_
  conv => whnf
  refine CallVC.pure (backend_fn V B id (by omega)) rfl ?_
  rintro _ rfl
  rcases found (fun u : Back => decide (u.id = id)) B with ⟨g1, g2⟩ | ⟨i, x, g1, g2, g3⟩
  · rw [g1, change_none rfl g1]
    conv => whnf
    rfl
  · rw [g1, change_some rfl g1 g3, with_chg hR.sb g3 1 0 (by decide)]
    have hi : i < B.length := (List.getElem?_eq_some_iff.1 g3).1
    conv => whnf
    refine own_vc4 V B (by omega) (by omega) ?_
    conv => whnf
    refine ⟨rfl, ⟨by omega, by omega⟩, ?_⟩
    conv => whnf
    refine goIn [] Tryz.func112 rfl (by kernel_rfl) (Nat.le_of_ble_eq_true rfl) ?_
    conv => whnf
    refine ⟨rfl, by show (↑i : Int).toNat < _; omega, fun x' hx' => ?_⟩
    obtain rfl : x = x' := by simpa using g3.symm.trans hx'
    conv => whnf
    refine ⟨rfl, chg 1 0 x, rfl, ?_⟩
    conv => whnf
    rfl

theorem pWeigh_fn (V : List Vip) (B : List Back) (id w : Int) (hR : Right V B) : Fn Tryz.prog 85 [farmD V B, intD id, intD w] fun d => d = .tup [farmD V (changeB B 2 id w).1, intD (changeB B 2 id w).2] := by
  have hlV := hR.lv
  have hlB := hR.lb
  refine fnOf [] Tryz.func85 rfl (by kernel_rfl) (Nat.le_of_ble_eq_true rfl) ?_
  have bad : (decide (w < 1) || decide (8 < w)) = true → changeB B 2 id w = (B, 2) := fun h => by
    unfold changeB; rw [h]; rfl
  conv => whnf
  refine Fork.intro (fun h1 => ?_) (fun h1 => ?_)
  · rw [bad (by rw [h1, Bool.true_or])]
    conv => whnf
    rfl
  · conv => whnf
    refine Fork.intro (fun h2 => ?_) (fun h2 => ?_)
    · rw [bad (by rw [h1, Bool.false_or]; exact h2)]
      conv => whnf
      rfl
    · have hk : (decide ((2 : Int) = 2) && (decide (w < 1) || decide (8 < w))) = false := by rw [h1]; rw [show decide (8 < w) = false from h2]; rfl
      conv => whnf
      refine goIn [] Tryz.func111 rfl (by kernel_rfl) (Nat.le_of_ble_eq_true rfl) ?_
      conv => whnf
      refine CallVC.pure (backend_fn V B id (by omega)) rfl ?_
      rintro _ rfl
      rcases found (fun u : Back => decide (u.id = id)) B with ⟨g1, g2⟩ | ⟨i, x, g1, g2, g3⟩
      · rw [g1, change_none hk g1]
        conv => whnf
        rfl
      · rw [g1, change_some hk g1 g3, with_chg hR.sb g3 2 w (by decide)]
        have hi : i < B.length := (List.getElem?_eq_some_iff.1 g3).1
        conv => whnf
        refine own_vc5 V B (by omega) (by omega) ?_
        conv => whnf
        refine ⟨rfl, ⟨by omega, by omega⟩, ?_⟩
        conv => whnf
        refine goIn [] Tryz.func113 rfl (by kernel_rfl) (Nat.le_of_ble_eq_true rfl) ?_
        conv => whnf
        refine ⟨rfl, by show (↑i : Int).toNat < _; omega, fun x' hx' => ?_⟩
        obtain rfl : x = x' := by simpa using g3.symm.trans hx'
        conv => whnf
        refine ⟨rfl, chg 2 w x, rfl, ?_⟩
        conv => whnf
        rfl

theorem modeV_set {V : List Vip} {i : Nat} {v : Vip} {m : Int} (h : V[i]? = some v) : V.mapIdx (mode1 (i : Int) m) = V.set i ⟨v.id, v.addr, v.port, v.proto, m⟩ := by
  apply List.ext_getElem?
  intro j
  have hi := (List.getElem?_eq_some_iff.1 h).1
  rw [List.getElem?_mapIdx, List.getElem?_set]
  by_cases hj : i = j
  · subst hj
    rw [if_pos rfl, if_pos hi, h]
    simp [mode1]
  · rw [if_neg hj]
    cases V[j]? with
    | none => rfl
    | some u => simp [mode1, show ¬ (j : Int) = (i : Int) by omega]
theorem goodV_mode {v : Vip} (h : goodV v = true) (m : Int) (hm : m = 1 ∨ m = 2) : goodV ⟨v.id, v.addr, v.port, v.proto, m⟩ = !(decide (m = 2) && !decide (v.proto = 6)) := by
  unfold goodV at *
  simp only [Bool.and_eq_true, Bool.or_eq_true, decide_eq_true_eq, Bool.not_eq_true'] at h
  obtain ⟨⟨⟨⟨h1, h2⟩, h3⟩, h4⟩, h5⟩ := h
  have h6 : v.proto = 6 ∨ v.proto = 17 := by
    rcases h5 with ⟨_, h⟩ | ⟨_, h⟩
    · exact h
    · exact .inl h
  rw [decide_eq_true h1, decide_eq_true h2, h3, decide_eq_true h4]
  rcases hm with rfl | rfl <;> rcases h6 with h6 | h6 <;> rw [h6] <;> rfl

theorem pMode_fn (V : List Vip) (B : List Back) (id m : Int) (wV : ∀ v, v ∈ V → v.ok) (hR : Right V B) : Fn Tryz.prog 86 [farmD V B, intD id, intD m] fun d => d = .tup [farmD (modeV V id m).1 B, intD (modeV V id m).2] := by
  have hlV := hR.lv
  have hlB := hR.lb
  refine fnOf [] Tryz.func86 rfl (by kernel_rfl) (Nat.le_of_ble_eq_true rfl) ?_
  by_cases h1 : m = 1
  · subst h1
    rcases found (fun u : Vip => decide (u.id = id)) V with ⟨g1, g2⟩ | ⟨i, x, g1, g2, g3⟩
    · have e : modeV V id 1 = (V, 8) := by unfold modeV; rw [g1]; rfl
      rw [e]
      conv => whnf
      refine CallVC.pure (farmVip_fn V B id (by omega)) rfl ?_
      rintro _ rfl
      rw [g1]
      conv => whnf
      rfl
    · have hi : i < V.length := (List.getElem?_eq_some_iff.1 g3).1
      have hgx := hR.gv x (List.mem_of_getElem? g3)
      have hg2 := goodV_mode hgx 1 (by decide)
      have hset := modeV_set (m := 1) g3
      have hmv : modeV V id 1 = match decide ((1 : Int) = 2) && !decide (x.proto = 6) with
          | true => (V, 2)
          | false => (V.set i ⟨x.id, x.addr, x.port, x.proto, 1⟩, 0) := by
        unfold modeV
        rw [g1, decide_eq_false (by omega : ¬ (i : Int) < 0)]
        simp only [nat_toNat, g3, hset]
        rfl
      have hok : Vip.ok ⟨x.id, x.addr, x.port, x.proto, 1⟩ := by
        have h5 := wV x (List.mem_of_getElem? g3)
        exact ⟨h5.id, h5.addr, h5.port, h5.proto, ⟨by show (-9223372036854775808 : Int) ≤ 1; decide, by show (1 : Int) ≤ 9223372036854775807; decide⟩⟩
      conv => whnf
      refine CallVC.pure (farmVip_fn V B id (by omega)) rfl ?_
      rintro _ rfl
      rw [g1]
      conv => whnf
      refine own_vc2 V B (by omega) (by omega) ?_
      conv => whnf
      refine ⟨rfl, ⟨by omega, by omega⟩, ?_⟩
      conv => whnf
      refine ⟨rfl, by show (↑i : Int).toNat < _; omega, fun x' hx' => ?_⟩
      obtain rfl : x = x' := by simpa using g3.symm.trans hx'
      conv => whnf
      refine ⟨rfl, ⟨x.id, x.addr, x.port, x.proto, 1⟩, rfl, ?_⟩
      have hsl : (V.set (↑i : Int).toNat ⟨x.id, x.addr, x.port, x.proto, 1⟩).length = V.length := by simp
      conv => whnf
      refine ⟨rfl, ⟨by omega, by omega⟩, ?_⟩
      conv => whnf
      refine ⟨rfl, by show (↑i : Int).toNat < _; omega, fun y hy => ?_⟩
      obtain rfl : (⟨x.id, x.addr, x.port, x.proto, 1⟩ : Vip) = y := by
        rw [nat_toNat, List.getElem?_set_self hi] at hy
        injection hy
      conv => whnf
      refine CallVC.pure (mayVip_fn ⟨x.id, x.addr, x.port, x.proto, 1⟩ hok) rfl ?_
      rintro _ rfl
      rw [hg2, hmv]
      cases hc : decide ((1 : Int) = 2) && !decide (x.proto = 6) with
      | true =>
        conv => whnf
        rfl
      | false =>
        conv => whnf
        rfl
  by_cases h2 : m = 2
  · subst h2
    rcases found (fun u : Vip => decide (u.id = id)) V with ⟨g1, g2⟩ | ⟨i, x, g1, g2, g3⟩
    · have e : modeV V id 2 = (V, 8) := by unfold modeV; rw [g1]; rfl
      rw [e]
      conv => whnf
      refine CallVC.pure (farmVip_fn V B id (by omega)) rfl ?_
      rintro _ rfl
      rw [g1]
      conv => whnf
      rfl
    · have hi : i < V.length := (List.getElem?_eq_some_iff.1 g3).1
      have hgx := hR.gv x (List.mem_of_getElem? g3)
      have hg2 := goodV_mode hgx 2 (by decide)
      have hset := modeV_set (m := 2) g3
      have hmv : modeV V id 2 = match decide ((2 : Int) = 2) && !decide (x.proto = 6) with
          | true => (V, 2)
          | false => (V.set i ⟨x.id, x.addr, x.port, x.proto, 2⟩, 0) := by
        unfold modeV
        rw [g1, decide_eq_false (by omega : ¬ (i : Int) < 0)]
        simp only [nat_toNat, g3, hset]
        rfl
      have hok : Vip.ok ⟨x.id, x.addr, x.port, x.proto, 2⟩ := by
        have h5 := wV x (List.mem_of_getElem? g3)
        exact ⟨h5.id, h5.addr, h5.port, h5.proto, ⟨by show (-9223372036854775808 : Int) ≤ 2; decide, by show (2 : Int) ≤ 9223372036854775807; decide⟩⟩
      conv => whnf
      refine CallVC.pure (farmVip_fn V B id (by omega)) rfl ?_
      rintro _ rfl
      rw [g1]
      conv => whnf
      refine own_vc2 V B (by omega) (by omega) ?_
      conv => whnf
      refine ⟨rfl, ⟨by omega, by omega⟩, ?_⟩
      conv => whnf
      refine ⟨rfl, by show (↑i : Int).toNat < _; omega, fun x' hx' => ?_⟩
      obtain rfl : x = x' := by simpa using g3.symm.trans hx'
      conv => whnf
      refine ⟨rfl, ⟨x.id, x.addr, x.port, x.proto, 2⟩, rfl, ?_⟩
      have hsl : (V.set (↑i : Int).toNat ⟨x.id, x.addr, x.port, x.proto, 2⟩).length = V.length := by simp
      conv => whnf
      refine ⟨rfl, ⟨by omega, by omega⟩, ?_⟩
      conv => whnf
      refine ⟨rfl, by show (↑i : Int).toNat < _; omega, fun y hy => ?_⟩
      obtain rfl : (⟨x.id, x.addr, x.port, x.proto, 2⟩ : Vip) = y := by
        rw [nat_toNat, List.getElem?_set_self hi] at hy
        injection hy
      conv => whnf
      refine CallVC.pure (mayVip_fn ⟨x.id, x.addr, x.port, x.proto, 2⟩ hok) rfl ?_
      rintro _ rfl
      rw [hg2, hmv]
      cases hc : decide ((2 : Int) = 2) && !decide (x.proto = 6) with
      | true =>
        conv => whnf
        rfl
      | false =>
        conv => whnf
        rfl
  have e : modeV V id m = (V, 2) := by unfold modeV; rw [decide_eq_false h1, decide_eq_false h2]; rfl
  rw [e]
  conv => whnf
  refine Fork.intro (fun _ => ?_) (fun h => ?_)
  · conv => whnf
    refine Fork.intro (fun _ => ?_) (fun h => ?_)
    · conv => whnf
      rfl
    · rw [decide_eq_false h2] at h; cases h
  · rw [decide_eq_false h1] at h; cases h
end Go.Proofs.YtooaeccmkgockaaGreatDoor.V
namespace Go.Proofs.YtooaeccmkgockaaGreatDoor.V
open Go.RowKit
attribute [local irreducible] Fn OpVC

structure Ord.ok (o : Ord) : Prop where
  count : 0 ≤ o.count ∧ o.count ≤ 18446744073709551615
  id : -9223372036854775808 ≤ o.id ∧ o.id ≤ 9223372036854775807
  vip : -9223372036854775808 ≤ o.vip ∧ o.vip ≤ 9223372036854775807
  addr : 0 ≤ o.addr ∧ o.addr ≤ 4294967295
  port : 0 ≤ o.port ∧ o.port ≤ 65535
  proto : 0 ≤ o.proto ∧ o.proto ≤ 255
  num : -9223372036854775808 ≤ o.num ∧ o.num ≤ 9223372036854775807

def ordVip (o : Ord) : Vip := ⟨o.id, o.addr, o.port, o.proto, o.num⟩
def ordBack (o : Ord) : Back := ⟨o.id, o.vip, o.addr, o.num, 0, false⟩
theorem ordVip_ok {o : Ord} (h : o.ok) : (ordVip o).ok := ⟨h.id, h.addr, h.port, h.proto, h.num⟩
theorem ordBack_ok {o : Ord} (h : o.ok) : (ordBack o).ok := ⟨h.id, h.addr⟩

def applyF (V : List Vip) (B : List Back) (o : Ord) : (List Vip × List Back) × Int := match decide (o.op = 1) with
  | true => (((addV V (ordVip o)).1, B), (addV V (ordVip o)).2)
  | false => match decide (o.op = 2) with
    | true => ((V, (addB V B (ordBack o)).1), (addB V B (ordBack o)).2)
    | false => match decide (o.op = 3) with
      | true => ((V, (changeB B 0 o.id 0).1), (changeB B 0 o.id 0).2)
      | false => match decide (o.op = 4) with
        | true => ((V, (changeB B 1 o.id 0).1), (changeB B 1 o.id 0).2)
        | false => match decide (o.op = 5) with
          | true => ((V, (changeB B 2 o.id o.num).1), (changeB B 2 o.id o.num).2)
          | false => match decide (o.op = 6) with
            | true => (((modeV V o.id o.num).1, B), (modeV V o.id o.num).2)
            | false => match decide (o.op = 7) with
              | true => ((V, B), 0)
              | false => ((V, B), 3)
def doF (V : List Vip) (B : List Back) (last : Int) (o : Ord) : ((List Vip × List Back) × Int) × Int := match decide (o.count ≤ last) with
  | true => (((V, B), last), 13)
  | false => match decide ((applyF V B o).2 = 0) with
    | true => (((applyF V B o).1, o.count), 0)
    | false => (((V, B), last), (applyF V B o).2)
abbrev stateD (V : List Vip) (B : List Back) (last : Int) : D := .agg [rowsV V, rowsB B, .v (.int .u64 last)]

structure Good (V : List Vip) (B : List Back) : Prop where
  right : Right V B
  v : ∀ x, x ∈ V → x.ok
  b : ∀ x, x ∈ B → x.ok

theorem apply_fn (V : List Vip) (B : List Back) (o : Ord) (ho : o.ok) (hG : Good V B) : Fn Tryz.prog 58 [farmD V B, .agg (ordD o)] fun d => d = .tup [farmD (applyF V B o).1.1 (applyF V B o).1.2, intD (applyF V B o).2] := by
  refine fnOf [] Tryz.func58 rfl (by kernel_rfl) (Nat.le_of_ble_eq_true rfl) ?_
  conv => whnf
  refine Fork.intro (fun h1 => ?_) (fun h1 => ?_)
  · have e : applyF V B o = (((addV V (ordVip o)).1, B), (addV V (ordVip o)).2) := by unfold applyF; rw [show decide (o.op = 1) = true from h1]
    rw [e]
    conv => whnf
    refine CallVC.pure (pAddVip_fn V B (ordVip o) (ordVip_ok ho) hG.right) rfl ?_
    rintro _ rfl
    conv => whnf
    rfl
  · conv => whnf
    refine Fork.intro (fun h2 => ?_) (fun h2 => ?_)
    · have e : applyF V B o = ((V, (addB V B (ordBack o)).1), (addB V B (ordBack o)).2) := by unfold applyF; rw [show decide (o.op = 1) = false from h1, show decide (o.op = 2) = true from h2]
      rw [e]
      conv => whnf
      refine CallVC.pure (pAddBackend_fn V B (ordBack o) hG.right) rfl ?_
      rintro _ rfl
      conv => whnf
      rfl
    · conv => whnf
      refine Fork.intro (fun h3 => ?_) (fun h3 => ?_)
      · have e : applyF V B o = ((V, (changeB B 0 o.id 0).1), (changeB B 0 o.id 0).2) := by unfold applyF; rw [show decide (o.op = 1) = false from h1, show decide (o.op = 2) = false from h2, show decide (o.op = 3) = true from h3]
        rw [e]
        conv => whnf
        refine CallVC.pure (pRemove_fn V B o.id hG.right) rfl ?_
        rintro _ rfl
        conv => whnf
        rfl
      · conv => whnf
        refine Fork.intro (fun h4 => ?_) (fun h4 => ?_)
        · have e : applyF V B o = ((V, (changeB B 1 o.id 0).1), (changeB B 1 o.id 0).2) := by unfold applyF; rw [show decide (o.op = 1) = false from h1, show decide (o.op = 2) = false from h2, show decide (o.op = 3) = false from h3, show decide (o.op = 4) = true from h4]
          rw [e]
          conv => whnf
          refine CallVC.pure (pDrain_fn V B o.id hG.right) rfl ?_
          rintro _ rfl
          conv => whnf
          rfl
        · conv => whnf
          refine Fork.intro (fun h5 => ?_) (fun h5 => ?_)
          · have e : applyF V B o = ((V, (changeB B 2 o.id o.num).1), (changeB B 2 o.id o.num).2) := by unfold applyF; rw [show decide (o.op = 1) = false from h1, show decide (o.op = 2) = false from h2, show decide (o.op = 3) = false from h3, show decide (o.op = 4) = false from h4, show decide (o.op = 5) = true from h5]
            rw [e]
            conv => whnf
            refine CallVC.pure (pWeigh_fn V B o.id o.num hG.right) rfl ?_
            rintro _ rfl
            conv => whnf
            rfl
          · conv => whnf
            refine Fork.intro (fun h6 => ?_) (fun h6 => ?_)
            · have e : applyF V B o = (((modeV V o.id o.num).1, B), (modeV V o.id o.num).2) := by unfold applyF; rw [show decide (o.op = 1) = false from h1, show decide (o.op = 2) = false from h2, show decide (o.op = 3) = false from h3, show decide (o.op = 4) = false from h4, show decide (o.op = 5) = false from h5, show decide (o.op = 6) = true from h6]
              rw [e]
              conv => whnf
              refine CallVC.pure (pMode_fn V B o.id o.num hG.v hG.right) rfl ?_
              rintro _ rfl
              conv => whnf
              rfl
            · conv => whnf
              refine Fork.intro (fun h7 => ?_) (fun h7 => ?_)
              · have e : applyF V B o = ((V, B), 0) := by unfold applyF; rw [show decide (o.op = 1) = false from h1, show decide (o.op = 2) = false from h2, show decide (o.op = 3) = false from h3, show decide (o.op = 4) = false from h4, show decide (o.op = 5) = false from h5, show decide (o.op = 6) = false from h6, show decide (o.op = 7) = true from h7]
                rw [e]
                conv => whnf
                rfl
              · have e : applyF V B o = ((V, B), 3) := by unfold applyF; rw [show decide (o.op = 1) = false from h1, show decide (o.op = 2) = false from h2, show decide (o.op = 3) = false from h3, show decide (o.op = 4) = false from h4, show decide (o.op = 5) = false from h5, show decide (o.op = 6) = false from h6, show decide (o.op = 7) = false from h7]
                rw [e]
                conv => whnf
                rfl

theorem do_fn (V : List Vip) (B : List Back) (last : Int) (o : Ord) (ho : o.ok) (hG : Good V B) : Fn Tryz.prog 42 [stateD V B last, .agg (ordD o)] fun d => d = .tup [stateD (doF V B last o).1.1.1 (doF V B last o).1.1.2 (doF V B last o).1.2, intD (doF V B last o).2] := by
  refine fnOf [] Tryz.func42 rfl (by kernel_rfl) (Nat.le_of_ble_eq_true rfl) ?_
  conv => whnf
  refine Fork.intro (fun h1 => ?_) (fun h1 => ?_)
  · have e : doF V B last o = (((V, B), last), 13) := by unfold doF; rw [show decide (o.count ≤ last) = true from h1]
    rw [e]
    conv => whnf
    rfl
  · conv => whnf
    refine CallVC.pure (apply_fn V B o ho hG) rfl ?_
    rintro _ rfl
    generalize hr : applyF V B o = r at *
    obtain ⟨⟨V', B'⟩, n⟩ := r
    conv => whnf
    refine Fork.intro (fun h2 => ?_) (fun h2 => ?_)
    · have e : doF V B last o = (((V, B), last), n) := by unfold doF; rw [show decide (o.count ≤ last) = false from h1, hr]; simp only []; rw [show decide (n = 0) = false by simpa using h2]
      rw [e]
      conv => whnf
      rfl
    · have e : doF V B last o = (((V', B'), o.count), 0) := by unfold doF; rw [show decide (o.count ≤ last) = false from h1, hr]; simp only []; rw [show decide (n = 0) = true by simpa using h2]
      rw [e]
      conv => whnf
      rfl

end Go.Proofs.YtooaeccmkgockaaGreatDoor.V
namespace Go.Proofs.YtooaeccmkgockaaGreatDoor.V
open Go.RowKit

theorem ins_in {α : Type} {key : α → Int} {x y : α} {l : List α} : y ∈ insBy key x l ↔ y = x ∨ y ∈ l := by
  rw [(ins_perm l).mem_iff, List.mem_append, List.mem_singleton]
  exact ⟨fun h => h.symm, fun h => h.symm⟩

theorem addV_right {V : List Vip} {B : List Back} {v : Vip} (h : Right V B) : Right (addV V v).1 B := by
  unfold addV
  split
  · exact h
  · rename_i hg
    split
    · exact h
    · rename_i hm
      rw [Bool.or_eq_false_iff] at hm
      split
      · exact h
      · rename_i hl
        have hl := of_decide_eq_false hl
        have hne : ∀ y ∈ V, y.id ≠ v.id := fun y hy => of_decide_eq_false (findI_no hm.1 y hy)
        have hns : ∀ y ∈ V, sameAt v.addr v.port v.proto y = false := fun y hy => findI_no hm.2 y hy
        refine ⟨by show (insBy Vip.id v V).length ≤ 4; rw [ins_len]; have := h.lv; omega, h.lb, ins_sorted h.sv hne, ?_, fun y hy => ?_, h.sb, h.gb, fun b hb => ?_⟩
        · refine (List.Perm.pairwise_iff (fun {a b} hab => by rw [same_symm]; exact hab) (ins_perm V)).2 ?_
          rw [List.pairwise_append]
          refine ⟨h.pv, by simp, fun a ha b hb => ?_⟩
          rw [List.mem_singleton.1 hb]
          exact hns a ha
        · rcases ins_in.1 hy with rfl | hy
          · exact hg
          · exact h.gv y hy
        · obtain ⟨u, hu, he⟩ := h.hv b hb
          exact ⟨u, ins_in.2 (.inr hu), he⟩

theorem addB_right {V : List Vip} {B : List Back} {b : Back} (h : Right V B) : Right V (addB V B b).1 := by
  unfold addB
  split
  · exact h
  · rename_i hg
    split
    · exact h
    · rename_i hv
      split
      · exact h
      · rename_i hm
        split
        · exact h
        · rename_i hl
          have hl := of_decide_eq_false hl
          have hne : ∀ y ∈ B, y.id ≠ (fresh b).id := fun y hy => of_decide_eq_false (findI_no hm y hy)
          refine ⟨h.lv, by show (insBy Back.id (fresh b) B).length ≤ 16; rw [ins_len]; have := h.lb; omega, h.sv, h.pv, h.gv, ins_sorted h.sb hne, fun y hy => ?_, fun y hy => ?_⟩
          · rcases ins_in.1 hy with rfl | hy
            · exact hg
            · exact h.gb y hy
          · rcases ins_in.1 hy with rfl | hy
            · rcases found (fun u : Vip => decide (u.id = b.vip)) V with ⟨g1, _⟩ | ⟨k, x, g1, g2, g3⟩
              · rw [g1] at hv; exact absurd (of_decide_eq_false hv) (by decide)
              · exact ⟨x, List.mem_of_getElem? g3, atV_id g2⟩
            · exact h.hv y hy

theorem set_get {α : Type} {L : List α} {i j : Nat} {y z : α} (h : (L.set i y)[j]? = some z) : (j = i ∧ z = y ∧ i < L.length) ∨ (j ≠ i ∧ L[j]? = some z) := by
  rw [List.getElem?_set] at h
  split at h
  · rename_i he
    subst he
    split at h
    · rename_i hl
      injection h with h
      exact .inl ⟨rfl, h.symm, hl⟩
    · cases h
  · rename_i he
    exact .inr ⟨fun e => he e.symm, h⟩
theorem set_mem {α : Type} {L : List α} {i : Nat} {y z : α} (h : z ∈ L.set i y) : z = y ∨ z ∈ L := by
  obtain ⟨j, hj⟩ := List.mem_iff_getElem?.1 h
  rcases set_get hj with ⟨_, h1, _⟩ | ⟨_, h1⟩
  · exact .inl h1
  · exact .inr (List.mem_of_getElem? h1)
theorem pairwise_set {α : Type} {R : α → α → Prop} {L : List α} {i : Nat} {x y : α} (hx : L[i]? = some x) (h : L.Pairwise R) (h1 : ∀ z, R z x → R z y) (h2 : ∀ z, R x z → R y z) : (L.set i y).Pairwise R := by
  refine pairwise_get.2 fun a b u w hab hu hw => ?_
  have key := pairwise_get.1 h
  rcases set_get hu with ⟨rfl, rfl, _⟩ | ⟨_, hu2⟩ <;> rcases set_get hw with ⟨rfl, rfl, _⟩ | ⟨_, hw2⟩
  · omega
  · exact h1 _ (key _ _ _ _ hab hx hw2)
  · exact h2 _ (key _ _ _ _ hab hu2 hx)
  · exact key _ _ _ _ hab hu2 hw2

theorem goodB_chg {b : Back} (h : goodB b = true) {kind w : Int} (hk : (decide (kind = 2) && (decide (w < 1) || decide (8 < w))) = false) : goodB (chg kind w b) = true := by
  unfold goodB at *
  simp only [Bool.and_eq_true, decide_eq_true_eq, Bool.not_eq_true'] at h
  obtain ⟨⟨⟨⟨⟨⟨h1, h2⟩, h3⟩, h4⟩, h5⟩, h6⟩, h7⟩ := h
  have e1 : 1 ≤ (chg kind w b).weight ∧ (chg kind w b).weight ≤ 8 := by
    unfold chg
    simp only
    split
    · rename_i hq
      rw [hq, Bool.true_and, Bool.or_eq_false_iff] at hk
      exact ⟨by have := of_decide_eq_false hk.1; omega, by have := of_decide_eq_false hk.2; omega⟩
    · exact ⟨h4, h5⟩
  have e2 : 1 ≤ (chg kind w b).life ∧ (chg kind w b).life ≤ 2 := by
    unfold chg
    simp only
    split
    · exact ⟨by decide, by decide⟩
    · exact ⟨h6, h7⟩
  simp only [Bool.and_eq_true, decide_eq_true_eq, Bool.not_eq_true']
  exact ⟨⟨⟨⟨⟨⟨h1, h2⟩, h3⟩, e1.1⟩, e1.2⟩, e2.1⟩, e2.2⟩

theorem changeB_right {V : List Vip} {B : List Back} {kind id w : Int} (h : Right V B) : Right V (changeB B kind id w).1 := by
  cases hk : (decide (kind = 2) && (decide (w < 1) || decide (8 < w))) with
  | true => unfold changeB; rw [hk]; exact h
  | false =>
    rcases found (fun u : Back => decide (u.id = id)) B with ⟨g1, g2⟩ | ⟨i, x, g1, g2, g3⟩
    · rw [change_none hk g1]; exact h
    · rw [change_some hk g1 g3]
      have hx := List.mem_of_getElem? g3
      by_cases h0 : kind = 0
      · subst h0
        show Right V (withB B (chg 0 w x) (decide ((0 : Int) = 0)))
        have hsub : (withB B (chg 0 w x) (decide ((0 : Int) = 0))).Sublist B := by
          rw [withB_parts (b := chg 0 w x) h.sb g3 rfl]
          have e1 : with1 (chg 0 w x) (decide ((0 : Int) = 0)) x = [] := by
            unfold with1
            rw [decide_eq_true (show x.id = (chg 0 w x).id from rfl)]
            rfl
          rw [e1, List.append_nil]
          conv => rhs; rw [split_at g3]
          exact List.Sublist.append (List.Sublist.refl _) (List.sublist_cons_self _ _)
        exact ⟨h.lv, Nat.le_trans hsub.length_le h.lb, h.sv, h.pv, h.gv, h.sb.sublist hsub, fun b hb => h.gb b (hsub.subset hb), fun b hb => h.hv b (hsub.subset hb)⟩
      · show Right V (withB B (chg kind w x) (decide (kind = 0)))
        rw [with_chg h.sb g3 kind w h0]
        refine ⟨h.lv, by rw [List.length_set]; exact h.lb, h.sv, h.pv, h.gv, pairwise_set g3 h.sb (fun z hz => hz) (fun z hz => hz), fun b hb => ?_, fun b hb => ?_⟩
        · rcases set_mem hb with rfl | hb
          · exact goodB_chg (h.gb x hx) hk
          · exact h.gb b hb
        · rcases set_mem hb with rfl | hb
          · exact h.hv x hx
          · exact h.hv b hb

theorem modeV_right {V : List Vip} {B : List Back} {id m : Int} (h : Right V B) : Right (modeV V id m).1 B := by
  unfold modeV
  split
  · exact h
  · rename_i hm
    split
    · exact h
    · rename_i hf
      rcases found (fun u : Vip => decide (u.id = id)) V with ⟨g1, g2⟩ | ⟨i, x, g1, g2, g3⟩
      · rw [g1] at hf; exact absurd (of_decide_eq_false hf) (by decide)
      · have e : (findI (fun u : Vip => decide (u.id = id)) V).toNat = i := by rw [g1]; rfl
        rw [e, g3]
        simp only
        split
        · exact h
        · rename_i hq
          show Right (V.mapIdx (mode1 (findI (fun u : Vip => decide (u.id = id)) V) m)) B
          rw [g1, modeV_set g3]
          have hx := List.mem_of_getElem? g3
          have hm2 : m = 1 ∨ m = 2 := by
            rw [Bool.and_eq_false_iff] at hm
            rcases hm with hm | hm
            · exact .inl (by simpa using hm)
            · exact .inr (by simpa using hm)
          refine ⟨by rw [List.length_set]; exact h.lv, h.lb, pairwise_set g3 h.sv (fun z hz => hz) (fun z hz => hz), pairwise_set g3 h.pv (fun z hz => hz) (fun z hz => hz), fun v hv => ?_, h.sb, h.gb, fun b hb => ?_⟩
          · rcases set_mem hv with rfl | hv
            · rw [goodV_mode (h.gv x hx) m hm2, hq]; rfl
            · exact h.gv v hv
          · obtain ⟨u, hu, he⟩ := h.hv b hb
            obtain ⟨j, hj⟩ := List.mem_iff_getElem?.1 hu
            by_cases hji : j = i
            · subst hji
              rw [g3] at hj; injection hj with hj; subst hj
              exact ⟨_, List.mem_of_getElem? (List.getElem?_set_self (List.getElem?_eq_some_iff.1 g3).1), he⟩
            · exact ⟨u, List.mem_of_getElem? (i := j) (by rw [List.getElem?_set_ne (fun e => hji e.symm)]; exact hj), he⟩

theorem good_farm {V : List Vip} {B : List Back} (h : Good V B) : FarmOk V B := ⟨h.right.lv, h.right.lb, h.v, h.b⟩
theorem good_of {V : List Vip} {B : List Back} (h : Right V B) (k : FarmOk V B) : Good V B := ⟨h, k.v, k.b⟩

theorem applyF_good {V : List Vip} {B : List Back} {o : Ord} (h : Good V B) (ho : o.ok) : Good (applyF V B o).1.1 (applyF V B o).1.2 := by
  unfold applyF
  split
  · exact good_of (addV_right h.right) (addV_ok (good_farm h) (ordVip_ok ho))
  · split
    · exact good_of (addB_right h.right) (addB_ok (good_farm h) (ordBack_ok ho))
    · split
      · exact good_of (changeB_right h.right) (changeB_ok (good_farm h))
      · split
        · exact good_of (changeB_right h.right) (changeB_ok (good_farm h))
        · split
          · exact good_of (changeB_right h.right) (changeB_ok (good_farm h))
          · split
            · exact good_of (modeV_right h.right) (modeV_ok (good_farm h))
            · split
              · exact h
              · exact h
theorem doF_good {V : List Vip} {B : List Back} {last : Int} {o : Ord} (h : Good V B) (ho : o.ok) : Good (doF V B last o).1.1.1 (doF V B last o).1.1.2 := by
  unfold doF
  split
  · exact h
  · split
    · exact applyF_good h ho
    · exact h
theorem good_nil : Good [] [] := ⟨⟨by decide, by decide, List.Pairwise.nil, List.Pairwise.nil, (fun _ h => by cases h), List.Pairwise.nil, (fun _ h => by cases h), (fun _ h => by cases h)⟩, (fun _ h => by cases h), (fun _ h => by cases h)⟩
end Go.Proofs.YtooaeccmkgockaaGreatDoor.V
namespace Go.Proofs.YtooaeccmkgockaaGreatDoor.V
open Go.RowKit

/-! ### Rows sorted by a key -/
theorem sorted_sub {α : Type} {key : α → Int} : ∀ {l m : List α}, l.Pairwise (fun x y => key x < key y) → m.Pairwise (fun x y => key x < key y) → (∀ x, x ∈ l → x ∈ m) → l.Sublist m
  | [], m, _, _, _ => List.nil_sublist m
  | x :: l, [], _, _, h => absurd (h x List.mem_cons_self) (by simp)
  | x :: l, y :: m, hl, hm, h => by
    have hl' := List.pairwise_cons.1 hl
    have hm' := List.pairwise_cons.1 hm
    by_cases hxy : x = y
    · subst hxy
      refine List.Sublist.cons_cons x (sorted_sub hl'.2 hm'.2 fun z hz => ?_)
      rcases List.mem_cons.1 (h z (List.mem_cons_of_mem _ hz)) with rfl | hz2
      · have := hl'.1 z hz; omega
      · exact hz2
    · refine List.Sublist.cons y (sorted_sub hl hm'.2 fun z hz => ?_)
      have hx : x ∈ m := (List.mem_cons.1 (h x List.mem_cons_self)).resolve_left hxy
      rcases List.mem_cons.1 (h z hz) with rfl | hz2
      · rcases List.mem_cons.1 hz with e | hz3
        · exact absurd e.symm hxy
        · have h1 := hl'.1 _ hz3
          have h2 := hm'.1 x hx
          omega
      · exact hz2
theorem sorted_ext {α : Type} {key : α → Int} {l m : List α} (hl : l.Pairwise (fun x y => key x < key y)) (hm : m.Pairwise (fun x y => key x < key y)) (h : ∀ x, x ∈ l ↔ x ∈ m) : l = m := by
  have h1 := sorted_sub hl hm fun x hx => (h x).1 hx
  have h2 := sorted_sub hm hl fun x hx => (h x).2 hx
  exact h1.eq_of_length (Nat.le_antisymm h1.length_le h2.length_le)
theorem key_inj {α : Type} {key : α → Int} {l : List α} (hl : l.Pairwise (fun x y => key x < key y)) {x y : α} (hx : x ∈ l) (hy : y ∈ l) (h : key x = key y) : x = y := by
  obtain ⟨i, hi⟩ := List.mem_iff_getElem?.1 hx
  obtain ⟨j, hj⟩ := List.mem_iff_getElem?.1 hy
  rcases Nat.lt_trichotomy i j with h1 | rfl | h1
  · have := pairwise_get.1 hl j i y x h1 hj hi; omega
  · rw [hi] at hj; injection hj
  · have := pairwise_get.1 hl i j x y h1 hi hj; omega
theorem mem_set_key {α : Type} {key : α → Int} {l : List α} (hl : l.Pairwise (fun x y => key x < key y)) {i : Nat} {x y u : α} (hx : l[i]? = some x) : u ∈ l.set i y ↔ (u ∈ l ∧ key u ≠ key x) ∨ u = y := by
  have hi := (List.getElem?_eq_some_iff.1 hx).1
  constructor
  · intro h
    obtain ⟨j, hj⟩ := List.mem_iff_getElem?.1 h
    rcases set_get hj with ⟨_, h1, _⟩ | ⟨h0, h1⟩
    · exact .inr h1
    · refine .inl ⟨List.mem_of_getElem? h1, fun he => h0 ?_⟩
      rcases Nat.lt_trichotomy j i with h2 | h2 | h2
      · have := pairwise_get.1 hl i j x u h2 hx h1; omega
      · exact h2
      · have := pairwise_get.1 hl j i u x h2 h1 hx; omega
  · rintro (⟨h, hne⟩ | rfl)
    · obtain ⟨j, hj⟩ := List.mem_iff_getElem?.1 h
      have hji : j ≠ i := by
        rintro rfl
        rw [hx] at hj; injection hj with hj; subst hj
        exact hne rfl
      exact List.mem_of_getElem? (i := j) (by rw [List.getElem?_set_ne (fun e => hji e.symm)]; exact hj)
    · exact List.mem_of_getElem? (List.getElem?_set_self hi)
theorem find_mem {α : Type} {key : α → Int} {l : List α} (hl : l.Pairwise (fun x y => key x < key y)) {x : α} (hx : x ∈ l) : ∃ i : Nat, findI (fun u => decide (key u = key x)) l = i ∧ l[i]? = some x := by
  rcases findI_cases (fun u => decide (key u = key x)) l with ⟨_, h2⟩ | ⟨k, y, h1, h2, h3, _⟩
  · have := h2 x hx; simp at this
  · have hyx := key_inj hl (List.mem_of_getElem? h2) hx (of_decide_eq_true h3)
    subst hyx
    exact ⟨k, h1, h2⟩
theorem find_none {α : Type} {key : α → Int} {l : List α} {n : Int} (h : ∀ x ∈ l, key x ≠ n) : findI (fun u => decide (key u = n)) l = -1 := by
  refine findI_none fun j u _ hu => ?_
  exact decide_eq_false (h u (List.mem_of_getElem? hu))
theorem atb_mem {V : List Back} (hl : V.Pairwise (fun x y => x.id < y.id)) {x : Back} (hx : x ∈ V) : atB x.id V = some x := by
  obtain ⟨i, h1, h2⟩ := find_mem (key := Back.id) hl hx
  unfold atB getAt
  rw [h1, decide_eq_false (by omega : ¬ (i : Int) < 0)]
  exact h2
theorem atV_mem {id : Int} {B : List Vip} {x : Vip} (h : atV id B = some x) : x ∈ B := by
  unfold atV at h
  rcases found (fun b : Vip => decide (b.id = id)) B with ⟨_, h2⟩ | ⟨k, y, _, h2, h3⟩
  · rw [h2] at h; cases h
  · rw [h2] at h; injection h with h; subst h; exact List.mem_of_getElem? h3
theorem atV_no {id : Int} {B : List Vip} (h : atV id B = none) : ∀ x ∈ B, x.id ≠ id := by
  intro x hx he
  rcases found (fun b : Vip => decide (b.id = id)) B with ⟨h1, _⟩ | ⟨k, y, _, h2, h3⟩
  · rcases findI_cases (fun b : Vip => decide (b.id = id)) B with ⟨_, h4⟩ | ⟨k, y, h4, _⟩
    · have := h4 x hx; simp [he] at this
    · omega
  · unfold atV at h; rw [h2] at h; cases h
theorem atB_no {id : Int} {B : List Back} (h : atB id B = none) : ∀ x ∈ B, x.id ≠ id := by
  intro x hx he
  rcases found (fun b : Back => decide (b.id = id)) B with ⟨h1, _⟩ | ⟨k, y, _, h2, h3⟩
  · rcases findI_cases (fun b : Back => decide (b.id = id)) B with ⟨_, h4⟩ | ⟨k, y, h4, _⟩
    · have := h4 x hx; simp [he] at this
    · omega
  · unfold atB at h; rw [h2] at h; cases h

/-! ### Deeds, by their members -/
theorem applyF_right {V : List Vip} {B : List Back} {o : Ord} (h : Right V B) : Right (applyF V B o).1.1 (applyF V B o).1.2 := by
  unfold applyF
  split
  · exact addV_right h
  · split
    · exact addB_right h
    · split
      · exact changeB_right h
      · split
        · exact changeB_right h
        · split
          · exact changeB_right h
          · split
            · exact modeV_right h
            · split
              · exact h
              · exact h
theorem right_ap {V V' : List Vip} {B B' : List Back} {o : Ord} {n : Int} (h : Right V B) (e : applyF V B o = ((V', B'), n)) : Right V' B' := by
  have := applyF_right (o := o) h
  rw [e] at this
  exact this

theorem ap_change {V : List Vip} {B : List Back} (hR : Right V B) {x : Back} (hx : x ∈ B) {o : Ord} (hid : o.id = x.id) (hop : o.op = 4 ∨ (o.op = 5 ∧ 1 ≤ o.num ∧ o.num ≤ 8)) :
    ∃ B', applyF V B o = ((V, B'), 0) ∧ ∀ u, u ∈ B' ↔ (u ∈ B ∧ u.id ≠ x.id) ∨ u = (if o.op = 4 then chg 1 0 x else chg 2 o.num x) := by
  obtain ⟨i, h1, h2⟩ := find_mem (key := Back.id) hR.sb hx
  rcases hop with hop | ⟨hop, hn⟩
  · have e : applyF V B o = ((V, (changeB B 1 o.id 0).1), (changeB B 1 o.id 0).2) := by unfold applyF; rw [hop]; rfl
    have e2 := change_some (B := B) (kind := 1) (id := o.id) (w := 0) rfl (by rw [hid]; exact h1) h2
    rw [with_chg hR.sb h2 1 0 (by decide)] at e2
    refine ⟨B.set i (chg 1 0 x), by rw [e, e2], fun u => ?_⟩
    rw [if_pos hop]
    exact mem_set_key (key := Back.id) hR.sb h2
  · have e : applyF V B o = ((V, (changeB B 2 o.id o.num).1), (changeB B 2 o.id o.num).2) := by unfold applyF; rw [hop]; rfl
    have e2 := change_some (B := B) (kind := 2) (id := o.id) (w := o.num) (by rw [decide_eq_false (by omega : ¬ o.num < 1), decide_eq_false (by omega : ¬ 8 < o.num)]; rfl) (by rw [hid]; exact h1) h2
    rw [with_chg hR.sb h2 2 o.num (by decide)] at e2
    refine ⟨B.set i (chg 2 o.num x), by rw [e, e2], fun u => ?_⟩
    rw [if_neg (by omega)]
    exact mem_set_key (key := Back.id) hR.sb h2
theorem ap_addV {V : List Vip} {B : List Back} {o : Ord} (hop : o.op = 1) (hg : goodV (ordVip o) = true) (hid : ∀ x ∈ V, x.id ≠ o.id) (hp : ∀ x ∈ V, sameAt o.addr o.port o.proto x = false) (hl : V.length < 4) :
    ∃ V', applyF V B o = ((V', B), 0) ∧ ∀ u, u ∈ V' ↔ u = ordVip o ∨ u ∈ V := by
  have e : applyF V B o = (((addV V (ordVip o)).1, B), (addV V (ordVip o)).2) := by unfold applyF; rw [hop]; rfl
  have e1 : decide (findI (fun u : Vip => decide (u.id = (ordVip o).id)) V ≥ 0) = false := by
    rw [find_none (key := Vip.id) (n := (ordVip o).id) hid]; rfl
  have e2 : decide (findI (sameAt (ordVip o).addr (ordVip o).port (ordVip o).proto) V ≥ 0) = false := by
    rw [findI_none (p := sameAt (ordVip o).addr (ordVip o).port (ordVip o).proto) fun j u _ hu => hp u (List.mem_of_getElem? hu)]; rfl
  have e3 : addV V (ordVip o) = (insBy Vip.id (ordVip o) V, 0) := by
    unfold addV
    rw [hg, e1, e2, decide_eq_false (by omega : ¬ (V.length : Int) = 4)]
    rfl
  exact ⟨_, by rw [e, e3], fun u => ins_in⟩
theorem ap_addB {V : List Vip} {B : List Back} {o : Ord} (hop : o.op = 2) (hg : goodB (fresh (ordBack o)) = true) (hv : ∃ v ∈ V, v.id = o.vip) (hid : ∀ x ∈ B, x.id ≠ o.id) (hl : B.length < 16) :
    ∃ B', applyF V B o = ((V, B'), 0) ∧ ∀ u, u ∈ B' ↔ u = fresh (ordBack o) ∨ u ∈ B := by
  have e : applyF V B o = ((V, (addB V B (ordBack o)).1), (addB V B (ordBack o)).2) := by unfold applyF; rw [hop]; rfl
  have e1 : decide (findI (fun u : Vip => decide (u.id = (ordBack o).vip)) V < 0) = false := by
    obtain ⟨v, h1, h2⟩ := hv
    rcases findI_cases (fun u : Vip => decide (u.id = (ordBack o).vip)) V with ⟨_, h4⟩ | ⟨k, y, h4, _⟩
    · have := h4 v h1
      have h5 : v.id = (ordBack o).vip := h2
      simp [h5] at this
    · rw [h4]; exact decide_eq_false (by omega)
  have e2 : decide (findI (fun u : Back => decide (u.id = (ordBack o).id)) B ≥ 0) = false := by
    rw [find_none (key := Back.id) (n := (ordBack o).id) hid]; rfl
  have e3 : addB V B (ordBack o) = (insBy Back.id (fresh (ordBack o)) B, 0) := by
    unfold addB
    rw [hg, e1, e2, decide_eq_false (by omega : ¬ (B.length : Int) = 16)]
  exact ⟨_, by rw [e, e3], fun u => ins_in⟩

/-! ### Orders one behind the other -/
def runF (V : List Vip) (B : List Back) : List Ord → Option (List Vip × List Back)
  | [] => some (V, B)
  | o :: r => match decide ((applyF V B o).2 = 0) with
    | true => runF (applyF V B o).1.1 (applyF V B o).1.2 r
    | false => none
theorem runF_cons (V : List Vip) (B : List Back) (o : Ord) (r : List Ord) : runF V B (o :: r) = match decide ((applyF V B o).2 = 0) with
    | true => runF (applyF V B o).1.1 (applyF V B o).1.2 r
    | false => none := rfl
theorem run_cons {V V' : List Vip} {B B' : List Back} {o : Ord} {r : List Ord} (h : applyF V B o = ((V', B'), 0)) : runF V B (o :: r) = runF V' B' r := by
  rw [runF_cons, h]; rfl
theorem run_append : ∀ (l m : List Ord) (V : List Vip) (B : List Back), runF V B (l ++ m) = match runF V B l with
    | some (V', B') => runF V' B' m
    | none => none
  | [], m, V, B => rfl
  | o :: r, m, V, B => by
    show runF V B (o :: (r ++ m)) = _
    rw [runF_cons, runF_cons]
    cases decide ((applyF V B o).2 = 0) with
    | true => exact run_append r m _ _
    | false => rfl
theorem run_flat {α : Type} {f : α → List Ord} {I : List α → List Vip → List Back → Prop} (L : List α)
    (step : ∀ P x R V B, L = P ++ x :: R → Right V B → I P V B → ∃ V' B', runF V B (f x) = some (V', B') ∧ Right V' B' ∧ I (P ++ [x]) V' B') :
    ∀ (R P : List α) (V : List Vip) (B : List Back), L = P ++ R → Right V B → I P V B → ∃ V' B', runF V B (R.flatMap f) = some (V', B') ∧ Right V' B' ∧ I L V' B'
  | [], P, V, B, hL, hR, hI => by
    rw [List.append_nil] at hL
    subst hL
    exact ⟨V, B, rfl, hR, hI⟩
  | x :: R, P, V, B, hL, hR, hI => by
    obtain ⟨V1, B1, h1, h2, h3⟩ := step P x R V B hL hR hI
    obtain ⟨V2, B2, h4, h5, h6⟩ := run_flat L step R (P ++ [x]) V1 B1 (by rw [hL, List.append_assoc]; rfl) h2 h3
    refine ⟨V2, B2, ?_, h5, h6⟩
    rw [List.flatMap_cons, run_append, h1]
    exact h4
end Go.Proofs.YtooaeccmkgockaaGreatDoor.V
namespace Go.Proofs.YtooaeccmkgockaaGreatDoor.V
open Go.RowKit

section
variable {V W : List Vip} {B B' : List Back}

theorem mem_parts {α : Type} {P R : List α} {x u : α} : u ∈ P ++ x :: R ↔ u ∈ P ∨ u = x ∨ u ∈ R := by simp
theorem notin_of {α : Type} {key : α → Int} {P R : List α} {x : α} (h : (P ++ x :: R).Pairwise (fun a b => key a < key b)) : ∀ y ∈ P, key y ≠ key x := by
  intro y hy
  have := (List.pairwise_append.1 h).2.2 y hy x List.mem_cons_self
  omega

theorem phase3 {V1 : List Vip} {B2 : List Back} (hR : Right V1 B2) (hS : Right W B') (hm : ∀ u, u ∈ V1 ↔ u ∈ W ∧ ∃ v ∈ V, v.id = u.id) : runF V1 B2 (W.flatMap (adds1 V)) = some (W, B2) ∧ Right W B2 := by
  obtain ⟨V2, Bn, h1, h2, h3, h4⟩ := run_flat (f := adds1 V) (I := fun P Vk Bk => Bk = B2 ∧ ∀ u, u ∈ Vk ↔ u ∈ W ∧ ((∃ v ∈ V, v.id = u.id) ∨ u ∈ P)) W (fun P x R Vk Bk hL hRk hI => by
    obtain ⟨rfl, hI⟩ := hI
    have hxW : x ∈ W := by rw [hL]; exact mem_parts.2 (.inr (.inl rfl))
    have hnP := notin_of (key := Vip.id) (hL ▸ hS.sv)
    cases hat : atV x.id V with
    | some v =>
      refine ⟨Vk, Bk, by unfold adds1; rw [hat]; rfl, hRk, rfl, fun u => ?_⟩
      rw [hI]
      constructor
      · rintro ⟨h5, h6 | h6⟩
        · exact ⟨h5, .inl h6⟩
        · exact ⟨h5, .inr (List.mem_append_left _ h6)⟩
      · rintro ⟨h5, h6 | h6⟩
        · exact ⟨h5, .inl h6⟩
        · rcases List.mem_append.1 h6 with h6 | h6
          · exact ⟨h5, .inr h6⟩
          · rw [List.mem_singleton.1 h6]
            exact ⟨hxW, .inl ⟨v, atV_mem hat, atV_id hat⟩⟩
    | none =>
      have hno := atV_no hat
      have hxk : x ∉ Vk := fun h => by
        rcases ((hI x).1 h).2 with ⟨v, hv, he⟩ | h5
        · exact hno v hv he
        · exact hnP x h5 rfl
      have hid : ∀ u ∈ Vk, u.id ≠ x.id := fun u hu he => hxk (key_inj (key := Vip.id) hS.sv ((hI u).1 hu).1 hxW he ▸ hu)
      have hpl : ∀ u ∈ Vk, sameAt x.addr x.port x.proto u = false := fun u hu => by
        have huW := ((hI u).1 hu).1
        obtain ⟨i, hi⟩ := List.mem_iff_getElem?.1 huW
        obtain ⟨j, hj⟩ := List.mem_iff_getElem?.1 hxW
        rcases Nat.lt_trichotomy i j with h5 | rfl | h5
        · exact pairwise_get.1 hS.pv j i x u h5 hj hi
        · rw [hi] at hj; injection hj with hj; subst hj; exact absurd hu hxk
        · rw [← same_symm]; exact pairwise_get.1 hS.pv i j u x h5 hi hj
      have hlen : Vk.length < 4 := by
        have h5 := sorted_sub (key := Vip.id) (ins_sorted (x := x) hRk.sv hid) hS.sv (fun u hu => by
          rcases ins_in.1 hu with rfl | hu
          · exact hxW
          · exact ((hI u).1 hu).1)
        have := h5.length_le
        rw [ins_len] at this
        have := hS.lv
        omega
      obtain ⟨Vn, e1, e2⟩ := ap_addV (B := Bk) (o := ⟨0, 1, x.id, 0, x.addr, x.port, x.proto, x.mode⟩) rfl (hS.gv x hxW) hid hpl hlen
      have hox : ordVip ⟨0, 1, x.id, 0, x.addr, x.port, x.proto, x.mode⟩ = x := rfl
      refine ⟨Vn, Bk, ?_, right_ap hRk e1, rfl, fun u => ?_⟩
      · unfold adds1
        rw [hat]
        show runF Vk Bk [_] = _
        rw [run_cons e1]
        rfl
      · rw [e2, hox, hI]
        constructor
        · rintro (rfl | ⟨h5, h6 | h6⟩)
          · exact ⟨hxW, .inr (List.mem_append_right _ (List.mem_singleton.2 rfl))⟩
          · exact ⟨h5, .inl h6⟩
          · exact ⟨h5, .inr (List.mem_append_left _ h6)⟩
        · rintro ⟨h5, h6 | h6⟩
          · exact .inr ⟨h5, .inl h6⟩
          · rcases List.mem_append.1 h6 with h6 | h6
            · exact .inr ⟨h5, .inr h6⟩
            · exact .inl (List.mem_singleton.1 h6)) W [] V1 B2 rfl hR ⟨rfl, fun u => by rw [hm]; simp⟩
  subst h3
  have e : V2 = W := sorted_ext (key := Vip.id) h2.sv hS.sv fun u => by
    rw [h4]
    exact ⟨fun h => h.1, fun h => ⟨h, .inr h⟩⟩
  subst e
  exact ⟨h1, h2⟩
end
end Go.Proofs.YtooaeccmkgockaaGreatDoor.V
namespace Go.Proofs.YtooaeccmkgockaaGreatDoor.V
open Go.RowKit

def fin1 (B B' : List Back) (y : Back) : Back := match atB y.id B with
  | none => { y with up := false }
  | some x => match leavesB x B' with
    | true => { y with up := false }
    | false => { y with up := x.up }
theorem fin_id (B B' : List Back) (y : Back) : (fin1 B B' y).id = y.id := by
  unfold fin1
  split
  · rfl
  · split <;> rfl
section
variable {V W : List Vip} {B B' : List Back}

theorem stays_of (hS : Right W B') {x y : Back} (hy : y ∈ B') (hid : x.id = y.id) (h : leavesB x B' = false) : y.vip = x.vip ∧ y.addr = x.addr ∧ ¬ (x.life = 2 ∧ y.life = 1) := by
  have h1 : atB x.id B' = some y := by rw [hid]; exact atb_mem hS.sb hy
  have h2 : leavesB x B' = match atB x.id B' with
    | none => true
    | some y => !decide (y.vip = x.vip) || (!decide (y.addr = x.addr) || (decide (x.life = 2) && decide (y.life = 1))) := rfl
  rw [h2, h1] at h
  simp only [Bool.or_eq_false_iff, Bool.not_eq_false', decide_eq_true_eq] at h
  refine ⟨h.1, h.2.1, fun hh => ?_⟩
  rw [hh.1, hh.2] at h
  simp at h
theorem life_good {y : Back} (h : goodB y = true) : y.life = 1 ∨ y.life = 2 := by
  unfold goodB at h
  simp only [Bool.and_eq_true, decide_eq_true_eq] at h
  have := h.1.2; have := h.2; omega
theorem weight_good {y : Back} (h : goodB y = true) : 1 ≤ y.weight ∧ y.weight ≤ 8 := by
  unfold goodB at h
  simp only [Bool.and_eq_true, decide_eq_true_eq] at h
  exact ⟨h.1.1.1.2, h.1.1.2⟩

theorem run_one {V V' : List Vip} {B B' : List Back} {o : Ord} (h : applyF V B o = ((V', B'), 0)) : runF V B [o] = some (V', B') := by rw [run_cons h]; rfl

theorem new_run {Bk : List Back} (hR : Right W Bk) (hS : Right W B') {y : Back} (hy : y ∈ B') (hid : ∀ u ∈ Bk, u.id ≠ y.id) (hsub : ∀ u ∈ Bk, ∃ z ∈ B', z.id = u.id) :
    ∃ Bn, runF W Bk (new1 y) = some (W, Bn) ∧ Right W Bn ∧ ∀ u, u ∈ Bn ↔ u ∈ Bk ∨ u = { y with up := false } := by
  have hgy := hS.gb y hy
  have hfr : fresh (ordBack ⟨0, 2, y.id, y.vip, y.addr, 0, 0, y.weight⟩) = ⟨y.id, y.vip, y.addr, y.weight, 1, false⟩ := rfl
  have hgf : goodB ⟨y.id, y.vip, y.addr, y.weight, 1, false⟩ = true := by
    unfold goodB at hgy ⊢
    simp only [Bool.and_eq_true, decide_eq_true_eq] at hgy ⊢
    exact ⟨⟨hgy.1.1, by decide⟩, by decide⟩
  have hlen : Bk.length < 16 := by
    have h5 := sorted_sub (key := fun n : Int => n) (l := (insBy Back.id (⟨y.id, y.vip, y.addr, y.weight, 1, false⟩ : Back) Bk).map Back.id) (m := B'.map Back.id)
      (List.Pairwise.map _ (fun _ _ h => h) (ins_sorted hR.sb hid)) (List.Pairwise.map _ (fun _ _ h => h) hS.sb) (fun n hn => by
        obtain ⟨u, hu, rfl⟩ := List.mem_map.1 hn
        rcases ins_in.1 hu with rfl | hu
        · exact List.mem_map.2 ⟨y, hy, rfl⟩
        · obtain ⟨z, hz, he⟩ := hsub u hu
          exact List.mem_map.2 ⟨z, hz, he⟩)
    have := h5.length_le
    rw [List.length_map, List.length_map, ins_len] at this
    have := hS.lb
    omega
  obtain ⟨B1, e1, e2⟩ := ap_addB (V := W) (B := Bk) (o := ⟨0, 2, y.id, y.vip, y.addr, 0, 0, y.weight⟩) rfl (by rw [hfr]; exact hgf) (hS.hv y hy) hid hlen
  have hR1 := right_ap hR e1
  rw [hfr] at e2
  cases hl : decide (y.life = 1) with
  | true =>
    have hl1 := of_decide_eq_true hl
    refine ⟨B1, by unfold new1; rw [hl]; exact run_one e1, hR1, fun u => ?_⟩
    rw [e2, or_comm]
    have : ({ y with up := false } : Back) = ⟨y.id, y.vip, y.addr, y.weight, 1, false⟩ := by rw [← hl1]
    rw [this]
  | false =>
    have hl2 : y.life = 2 := (life_good hgy).resolve_left (of_decide_eq_false hl)
    have hf : (⟨y.id, y.vip, y.addr, y.weight, 1, false⟩ : Back) ∈ B1 := (e2 _).2 (.inl rfl)
    obtain ⟨B2, e3, e4⟩ := ap_change (o := ⟨0, 4, y.id, 0, 0, 0, 0, 0⟩) hR1 hf rfl (.inl rfl)
    refine ⟨B2, by unfold new1; rw [hl]; show runF W Bk [_, _] = _; rw [run_cons e1]; exact run_one e3, right_ap hR1 e3, fun u => ?_⟩
    have hc : (if (4 : Int) = 4 then chg 1 0 (⟨y.id, y.vip, y.addr, y.weight, 1, false⟩ : Back) else chg 2 0 ⟨y.id, y.vip, y.addr, y.weight, 1, false⟩) = { y with up := false } := by
      rw [if_pos rfl]
      show (⟨y.id, y.vip, y.addr, y.weight, 2, false⟩ : Back) = _
      rw [← hl2]
    rw [e4, hc, e2]
    constructor
    · rintro (⟨rfl | h, hne⟩ | h)
      · exact absurd rfl hne
      · exact .inl h
      · exact .inr h
    · rintro (h | h)
      · exact .inl ⟨.inr h, hid u h⟩
      · exact .inr h

def wOrd (x y : Back) : List Ord := match decide (x.weight = y.weight) with
  | true => []
  | false => [⟨0, 5, y.id, 0, 0, 0, 0, y.weight⟩]
def lOrd (x y : Back) : List Ord := match decide (x.life = y.life) with
  | true => []
  | false => [⟨0, 4, y.id, 0, 0, 0, 0, 0⟩]
theorem old1_eq (x y : Back) : old1 x y = wOrd x y ++ lOrd x y := rfl

theorem old_run {Bk : List Back} (hR : Right W Bk) (hS : Right W B') {x y : Back} (hy : y ∈ B') (hx : x ∈ Bk) (hid : x.id = y.id) (hl : leavesB x B' = false) :
    ∃ Bn, runF W Bk (old1 x y) = some (W, Bn) ∧ Right W Bn ∧ ∀ u, u ∈ Bn ↔ (u ∈ Bk ∧ u.id ≠ y.id) ∨ u = { y with up := x.up } := by
  obtain ⟨hs1, hs2, hs3⟩ := stays_of hS hy hid hl
  have hgy := hS.gb y hy
  have hgx := hR.gb x hx
  -- the weight
  have wt : ∃ B1, runF W Bk (wOrd x y) = some (W, B1) ∧ Right W B1 ∧ ∀ u, u ∈ B1 ↔ (u ∈ Bk ∧ u.id ≠ y.id) ∨ u = { x with weight := y.weight } := by
    have hxy : ∀ u : Back, (u.id ≠ x.id) = (u.id ≠ y.id) := fun u => by rw [hid]
    cases hw : decide (x.weight = y.weight) with
    | true =>
      have ew : wOrd x y = [] := by unfold wOrd; rw [hw]
      have hw := of_decide_eq_true hw
      rw [ew]
      refine ⟨Bk, rfl, hR, fun u => ?_⟩
      have : ({ x with weight := y.weight } : Back) = x := by rw [← hw]
      rw [this]
      constructor
      · intro hu
        by_cases hux : u.id = y.id
        · exact .inr (key_inj (key := Back.id) hR.sb hu hx (by rw [hux, hid]))
        · exact .inl ⟨hu, hux⟩
      · rintro (h | rfl)
        · exact h.1
        · exact hx
    | false =>
      obtain ⟨B1, e1, e2⟩ := ap_change (o := ⟨0, 5, y.id, 0, 0, 0, 0, y.weight⟩) hR hx hid.symm (.inr ⟨rfl, weight_good hgy⟩)
      have ew : wOrd x y = [⟨0, 5, y.id, 0, 0, 0, 0, y.weight⟩] := by unfold wOrd; rw [hw]
      rw [ew]
      refine ⟨B1, run_one e1, right_ap hR e1, fun u => ?_⟩
      have hc : (if (5 : Int) = 4 then chg 1 0 x else chg 2 y.weight x) = { x with weight := y.weight } := by
        rw [if_neg (by decide)]
        rfl
      rw [e2, hc, hxy]
  obtain ⟨B1, r1, hR1, m1⟩ := wt
  have hx1 : ({ x with weight := y.weight } : Back) ∈ B1 := (m1 _).2 (.inr rfl)
  have fin : ∃ B2, runF W B1 (lOrd x y) = some (W, B2) ∧ Right W B2 ∧ ∀ u, u ∈ B2 ↔ (u ∈ Bk ∧ u.id ≠ y.id) ∨ u = { y with up := x.up } := by
    cases hf : decide (x.life = y.life) with
    | true =>
      have ew : lOrd x y = [] := by unfold lOrd; rw [hf]
      rw [ew]
      have hf := of_decide_eq_true hf
      refine ⟨B1, rfl, hR1, fun u => ?_⟩
      have : ({ x with weight := y.weight } : Back) = { y with up := x.up } := by
        show (⟨x.id, x.vip, x.addr, y.weight, x.life, x.up⟩ : Back) = ⟨y.id, y.vip, y.addr, y.weight, y.life, x.up⟩
        rw [hid, hs1, hs2, hf]
      rw [m1, this]
    | false =>
      have ew : lOrd x y = [⟨0, 4, y.id, 0, 0, 0, 0, 0⟩] := by unfold lOrd; rw [hf]
      rw [ew]
      have hf := of_decide_eq_false hf
      have h5 := life_good hgy
      have h6 := life_good hgx
      have hy2 : y.life = 2 := by omega
      obtain ⟨B2, e1, e2⟩ := ap_change (o := ⟨0, 4, y.id, 0, 0, 0, 0, 0⟩) hR1 hx1 hid.symm (.inl rfl)
      refine ⟨B2, run_one e1, right_ap hR1 e1, fun u => ?_⟩
      have hc : (if (4 : Int) = 4 then chg 1 0 ({ x with weight := y.weight } : Back) else chg 2 0 { x with weight := y.weight }) = { y with up := x.up } := by
        rw [if_pos rfl]
        show (⟨x.id, x.vip, x.addr, y.weight, 2, x.up⟩ : Back) = ⟨y.id, y.vip, y.addr, y.weight, y.life, x.up⟩
        rw [hid, hs1, hs2, hy2]
      rw [e2, hc, m1]
      have hxy : (u.id ≠ x.id) = (u.id ≠ y.id) := by rw [hid]
      show (_ ∧ u.id ≠ x.id) ∨ _ ↔ _
      rw [hxy]
      constructor
      · rintro (⟨h | rfl, hne⟩ | h)
        · exact .inl h
        · exact absurd hid hne
        · exact .inr h
      · rintro (h | h)
        · exact .inl ⟨.inl h, h.2⟩
        · exact .inr h
  obtain ⟨B2, r2, hR2, m2⟩ := fin
  refine ⟨B2, ?_, hR2, m2⟩
  rw [old1_eq, run_append, r1]
  exact r2

theorem phase4 (hB : B.Pairwise fun x y => x.id < y.id) {B2 : List Back} (hR : Right W B2) (hS : Right W B') (hm : ∀ u, u ∈ B2 ↔ u ∈ B ∧ leavesB u B' = false) : runF W B2 (B'.flatMap (backs1 B B')) = some (W, B'.map (fin1 B B')) ∧ Right W (B'.map (fin1 B B')) := by
  have hleft : ∀ {u : Back}, leavesB u B' = false → ∃ z ∈ B', z.id = u.id := by
    intro u hu
    have h2 : leavesB u B' = match atB u.id B' with
      | none => true
      | some y => !decide (y.vip = u.vip) || (!decide (y.addr = u.addr) || (decide (u.life = 2) && decide (y.life = 1))) := rfl
    rw [h2] at hu
    split at hu
    · cases hu
    · rename_i z hz
      exact ⟨z, atB_mem hz, atB_id hz⟩
  obtain ⟨V2, Bn, h1, h2, h3, h4⟩ := run_flat (f := backs1 B B') (I := fun P Vk Bk => Vk = W ∧ ∀ u, u ∈ Bk ↔ ((u ∈ B ∧ leavesB u B' = false) ∧ ∀ y ∈ P, y.id ≠ u.id) ∨ ∃ y ∈ P, u = fin1 B B' y) B' (fun P y R Vk Bk hL hRk hI => by
    obtain ⟨rfl, hI⟩ := hI
    have hyB : y ∈ B' := by rw [hL]; exact mem_parts.2 (.inr (.inl rfl))
    have hnP := notin_of (key := Back.id) (hL ▸ hS.sb)
    have hPB : ∀ z ∈ P, z ∈ B' := fun z hz => by rw [hL]; exact mem_parts.2 (.inl hz)
    have key : ∃ Bn, runF Vk Bk (backs1 B B' y) = some (Vk, Bn) ∧ Right Vk Bn ∧ ∀ u, u ∈ Bn ↔ (u ∈ Bk ∧ u.id ≠ y.id) ∨ u = fin1 B B' y := by
      have isnew : (∀ x ∈ B, x.id = y.id → leavesB x B' = true) → backs1 B B' y = new1 y → fin1 B B' y = { y with up := false } → ∃ Bn, runF Vk Bk (backs1 B B' y) = some (Vk, Bn) ∧ Right Vk Bn ∧ ∀ u, u ∈ Bn ↔ (u ∈ Bk ∧ u.id ≠ y.id) ∨ u = fin1 B B' y := by
        intro hno hb hf
        have hid : ∀ u ∈ Bk, u.id ≠ y.id := by
          intro u hu he
          rcases (hI u).1 hu with ⟨⟨h5, h6⟩, _⟩ | ⟨z, hz, rfl⟩
          · rw [hno u h5 he] at h6; cases h6
          · rw [fin_id] at he
            exact hnP z hz he
        obtain ⟨Bn, e1, e2, e3⟩ := new_run hRk hS hyB hid (fun u hu => by
          rcases (hI u).1 hu with ⟨⟨_, h6⟩, _⟩ | ⟨z, hz, rfl⟩
          · exact hleft h6
          · exact ⟨z, hPB z hz, (fin_id B B' z).symm⟩)
        refine ⟨Bn, by rw [hb]; exact e1, e2, fun u => ?_⟩
        rw [e3, hf]
        constructor
        · rintro (h | h)
          · exact .inl ⟨h, hid u h⟩
          · exact .inr h
        · rintro (h | h)
          · exact .inl h.1
          · exact .inr h
      cases hat : atB y.id B with
      | none => exact isnew (fun x hx he => absurd he (atB_no hat x hx)) (by simp only [backs1, hat]) (by simp only [fin1, hat])
      | some x =>
        have hxB := atB_mem hat
        have hxid := atB_id hat
        cases hl : leavesB x B' with
        | true => exact isnew (fun u hu he => by rw [key_inj (key := Back.id) hB hu hxB (by rw [he, hxid])]; exact hl) (by simp only [backs1, hat, hl]) (by simp only [fin1, hat, hl])
        | false =>
          have hxk : x ∈ Bk := (hI x).2 (.inl ⟨⟨hxB, hl⟩, fun z hz => by rw [hxid]; exact hnP z hz⟩)
          obtain ⟨Bn, e1, e2, e3⟩ := old_run hRk hS hyB hxk hxid hl
          exact ⟨Bn, by simp only [backs1, hat, hl]; exact e1, e2, fun u => by rw [e3]; simp only [fin1, hat, hl]⟩
    obtain ⟨Bn, e1, e2, e3⟩ := key
    refine ⟨Vk, Bn, e1, e2, rfl, fun u => ?_⟩
    rw [e3, hI]
    constructor
    · rintro (⟨⟨h5, h6⟩ | ⟨z, hz, rfl⟩, hne⟩ | h)
      · refine .inl ⟨h5, fun z hz => ?_⟩
        rcases List.mem_append.1 hz with hz | hz
        · exact h6 z hz
        · rw [List.mem_singleton.1 hz]; exact fun he => hne he.symm
      · exact .inr ⟨z, List.mem_append_left _ hz, rfl⟩
      · exact .inr ⟨y, List.mem_append_right _ (List.mem_singleton.2 rfl), h⟩
    · rintro (⟨h5, h6⟩ | ⟨z, hz, rfl⟩)
      · exact .inl ⟨.inl ⟨h5, fun z hz => h6 z (List.mem_append_left _ hz)⟩, fun he => h6 y (List.mem_append_right _ (List.mem_singleton.2 rfl)) he.symm⟩
      · rcases List.mem_append.1 hz with hz | hz
        · exact .inl ⟨.inr ⟨z, hz, rfl⟩, by rw [fin_id]; exact hnP z hz⟩
        · rw [List.mem_singleton.1 hz]; exact .inr rfl) B' [] W B2 rfl hR ⟨rfl, fun u => by rw [hm]; simp⟩
  subst h3
  have e : Bn = B'.map (fin1 B B') := by
    refine sorted_ext (key := Back.id) h2.sb ?_ fun u => ?_
    · rw [List.pairwise_map]
      exact hS.sb.imp fun h => by rw [fin_id, fin_id]; exact h
    · rw [h4, List.mem_map]
      constructor
      · rintro (⟨⟨_, h6⟩, h7⟩ | ⟨y, hy, rfl⟩)
        · obtain ⟨z, hz, he⟩ := hleft h6
          exact absurd he (h7 z hz)
        · exact ⟨y, hy, rfl⟩
      · rintro ⟨y, hy, rfl⟩
        exact .inr ⟨y, hy, rfl⟩
  subst e
  exact ⟨h1, h2⟩

end
end Go.Proofs.YtooaeccmkgockaaGreatDoor.V
namespace Go.Proofs.YtooaeccmkgockaaGreatDoor.V
open Go.RowKit

/-! ### Farms that deeds make -/
theorem right_nil : Right [] [] := good_nil.right
theorem would_right {V : List Vip} {B : List Back} {d : Deed} (h : Right V B) : Right (would V B d).1.1 (would V B d).1.2 := by
  unfold would
  split
  · exact addV_right h
  · split
    · exact addB_right h
    · split
      · exact changeB_right h
      · exact modeV_right h
theorem madeTo_right (L : List Deed) : ∀ k, Right (madeTo L k).1 (madeTo L k).2
  | 0 => right_nil
  | k + 1 => by
    rw [madeTo]
    split
    · exact would_right (madeTo_right L k)
    · exact madeTo_right L k
theorem made_good {L : List Deed} (h : ∀ x, x ∈ L → x.ok) : Good (made L).1 (made L).2 := good_of (madeTo_right L _) (madeTo_ok h _)

/-! ### The orders are of their types -/
/-! ### Done one behind the other -/
/-! ### Who is up stays so -/
end Go.Proofs.YtooaeccmkgockaaGreatDoor.V
