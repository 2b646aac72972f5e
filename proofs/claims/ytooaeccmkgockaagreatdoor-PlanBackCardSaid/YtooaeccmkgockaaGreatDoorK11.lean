/-
  Who is served where, and by whom: the law. Conditions: numbers are of their types.
  The orders that make a farm into another one: the document's. Conditions: short rows.
  The orders that make a farm into another one: what the program looks for. Conditions: short rows.
  The orders that make a farm into another one: the program's rows of orders. Conditions: short rows.
  The orders that make a farm into another one: the program's answer. Conditions: short rows, numbers of their types.
  The orders that make a farm into another one: the document's answer. Conditions: short rows, numbers of their types. Printed by gen_gf.py.
  Which farms are alike; the law's body. Conditions: short rows, numbers of their types.
  Which farms may be, plainly; what deeds do to them. No condition.
-/
import Derived.Test.YtooaeccmkgockaaGreatDoorK2
import Derived.WalkKit
import Derived.ProofKit
import Derived.Below
import Derived.Test.YtooaeccmkgockaaGreatDoorVd0
import Derived.Laws.MakeOwn
import Derived.Laws.BytesString
import Derived.Deep.AppendSrc
import Derived.Laws.AppendOwn
import Derived.Deep.Upon
import Derived.OrdersHeld
import Derived.LoopN
import Derived.Scope
import Derived.Tactics
import Derived.Test.YtooaeccmkgockaaGreatDoorLaw
import Derived.Test.YtooaeccmkgockaaGreatDoorFrK
namespace Go.Proofs.YtooaeccmkgockaaGreatDoor.V
open Go.RowKit
attribute [local irreducible] Fn OpVC

theorem eqVipOk : eqOk Tryz.prog 79 [1, 1, 1, 1, 1] = true := by kernel_rfl
theorem eqBackOk : eqOk Tryz.prog 81 [1, 1, 1, 1, 1, 2] = true := by kernel_rfl

section
variable {P : Program}
theorem Fn.exact {f : FuncId} {args : List D} {D0 : D} (h : Fn P f args fun d => DLe d D0) : Fn P f args fun d => d = D0 := by
  unfold Fn at *
  exact ⟨h.1, fun w B vs hB hr => (h.2 w B vs hB hr).mono fun e w' ⟨d, v, h1, h2, h3, h4⟩ => ⟨D0, v, rfl, h2, h3, h1 _ _ h4⟩⟩
end

theorem same_fn (V : List Vip) (B : List Back) (hV : V.length ≤ 1000000) (hB : B.length ≤ 1000000) : Fn Tryz.prog 17 [farmD V B, farmD V B] fun d => d = boolD true := by
  refine fnOf [] Tryz.func17 rfl (by kernel_rfl) (Nat.le_of_ble_eq_true rfl) ?_
  conv => whnf
  refine Fork.intro (fun h1 => by simp at h1) (fun _ => ?_)
  conv => whnf
  refine Fork.intro (fun h1 => by simp at h1) (fun _ => ?_)
  conv => whnf
  refine ⟨Nat, fun k => ⟨[(5, intD k), (4, boolD false), (3, .loc 1 0), (2, .loc 0 0)], [(0, .cells 45 [rowsV V, rowsB B]), (1, .cells 45 [rowsV V, rowsB B])], 2, ([], 0)⟩,
    fun k => k ≤ V.length, fun k => V.length - k, ⟨0, [], [], ?_, Nat.zero_le _⟩, ?_⟩
  · repeat' (first | exact trivial | exact .inl (DLe.refl _) | exact .inl (DLe.nil _ _) | (refine .inr ⟨rfl, _, ?_, rfl⟩; rfl) | exact rfl | exact Nat.zero_le _ | constructor)
  · intro k hk
    conv => whnf
    refine Fork.intro (fun h1 => ?_) (fun h1 => ?_)
    · have hlt : (k : Int) < V.length := of_decide_eq_true h1
      conv => whnf
      refine ⟨rfl, ⟨by omega, hlt⟩, fun x hx => ?_⟩
      conv => whnf
      refine ⟨rfl, ⟨by omega, hlt⟩, fun x' hx' => ?_⟩
      obtain rfl : x = x' := by simpa using hx.symm.trans hx'
      conv => whnf
      refine ⟨eqVipOk, rfl, ?_⟩
      conv => whnf
      refine Fork.intro (fun h2 => by simp [eqD] at h2) (fun _ => ?_)
      conv => whnf
      rw [wrap_next (show k < V.length by omega) hV]
      refine ⟨k + 1, [], [], ?_, by show k + 1 ≤ _; omega, by show V.length - (k + 1) < V.length - k; omega⟩
      repeat' (first | exact trivial | exact .inl (DLe.refl _) | exact .inl (DLe.nil _ _) | (refine .inr ⟨rfl, _, ?_, rfl⟩; rfl) | exact rfl | exact Nat.zero_le _ | constructor)
    · conv => whnf
      refine ⟨Nat, fun k => ⟨[(6, intD k), (4, boolD false), (3, .loc 1 0), (2, .loc 0 0)], [(0, .cells 45 [rowsV V, rowsB B]), (1, .cells 45 [rowsV V, rowsB B])], 2, ([], 0)⟩,
        fun k => k ≤ B.length, fun k => B.length - k, ⟨0, [], [], ?_, Nat.zero_le _⟩, ?_⟩
      · repeat' (first | exact trivial | exact .inl (DLe.refl _) | exact .inl (DLe.nil _ _) | (refine .inr ⟨rfl, _, ?_, rfl⟩; rfl) | exact rfl | exact Nat.zero_le _ | constructor)
      · intro k hk
        conv => whnf
        refine Fork.intro (fun h1 => ?_) (fun h1 => ?_)
        · have hlt : (k : Int) < B.length := of_decide_eq_true h1
          conv => whnf
          refine ⟨rfl, ⟨by omega, hlt⟩, fun x hx => ?_⟩
          conv => whnf
          refine ⟨rfl, ⟨by omega, hlt⟩, fun x' hx' => ?_⟩
          obtain rfl : x = x' := by simpa using hx.symm.trans hx'
          conv => whnf
          refine ⟨eqBackOk, rfl, ?_⟩
          conv => whnf
          refine Fork.intro (fun h2 => by simp [eqD] at h2) (fun _ => ?_)
          conv => whnf
          rw [wrap_next (show k < B.length by omega) hB]
          refine ⟨k + 1, [], [], ?_, by show k + 1 ≤ _; omega, by show B.length - (k + 1) < B.length - k; omega⟩
          repeat' (first | exact trivial | exact .inl (DLe.refl _) | exact .inl (DLe.nil _ _) | (refine .inr ⟨rfl, _, ?_, rfl⟩; rfl) | exact rfl | exact Nat.zero_le _ | constructor)
        · conv => whnf

theorem found {α : Type} (p : α → Bool) (L : List α) : (findI p L = -1 ∧ getAt p L = none) ∨ ∃ (k : Nat) (x : α), findI p L = k ∧ getAt p L = some x ∧ L[k]? = some x := by
  rcases findI_cases p L with ⟨h1, _⟩ | ⟨k, x, h1, h2, _, _⟩
  · exact .inl ⟨h1, by unfold getAt; rw [h1]; rfl⟩
  · refine .inr ⟨k, x, h1, ?_, h2⟩
    unfold getAt
    rw [h1, decide_eq_false (by omega : ¬ (k : Int) < 0)]
    exact h2
theorem findI_any {α : Type} (p : α → Bool) (L : List α) : decide (findI p L ≥ 0) = L.any p := by
  rcases findI_cases p L with ⟨h1, h2⟩ | ⟨k, x, h1, h2, h3, _⟩
  · rw [h1]
    symm
    rw [show decide ((-1 : Int) ≥ 0) = false from rfl, ← Bool.not_eq_true]
    intro h
    obtain ⟨x, hx, hp⟩ := List.any_eq_true.1 h
    rw [h2 x hx] at hp; cases hp
  · rw [h1, decide_eq_true (by omega : (k : Int) ≥ 0)]
    symm
    exact List.any_eq_true.2 ⟨x, List.mem_of_getElem? h2, h3⟩

end Go.Proofs.YtooaeccmkgockaaGreatDoor.V
namespace Go.Proofs.YtooaeccmkgockaaGreatDoor.V
open Go.RowKit
attribute [local irreducible] Fn OpVC

def leavesB (x : Back) (B : List Back) : Bool := match getAt (fun b : Back => decide (b.id = x.id)) B with
  | none => true
  | some y => !decide (y.vip = x.vip) || (!decide (y.addr = x.addr) || (decide (x.life = 2) && decide (y.life = 1)))

end Go.Proofs.YtooaeccmkgockaaGreatDoor.V
namespace Go.Proofs.YtooaeccmkgockaaGreatDoor.V
open Go.RowKit
attribute [local irreducible] Fn OpVC

abbrev atV (id : Int) (V : List Vip) : Option Vip := getAt (fun v : Vip => decide (v.id = id)) V
abbrev atB (id : Int) (B : List Back) : Option Back := getAt (fun b : Back => decide (b.id = id)) B
def kept1 (W : List Vip) (v : Vip) : Bool := match atV v.id W with
  | none => false
  | some w => decide (w.addr = v.addr) && (decide (w.port = v.port) && decide (w.proto = v.proto))
theorem atV_id {id : Int} {V : List Vip} {w : Vip} (h : atV id V = some w) : w.id = id := by
  unfold atV at h
  rcases found (fun v : Vip => decide (v.id = id)) V with ⟨_, h2⟩ | ⟨k, x, h1, h2, h3⟩
  · rw [h2] at h; cases h
  · rw [h2] at h
    injection h with h; subst h
    rcases findI_cases (fun v : Vip => decide (v.id = id)) V with ⟨h4, _⟩ | ⟨k', y, h4, h5, h6, _⟩
    · rw [h4] at h1; omega
    · rw [h4] at h1
      have : k' = k := by omega
      subst this
      rw [h3] at h5; injection h5 with h5; subst h5
      exact of_decide_eq_true h6
theorem atB_id {id : Int} {V : List Back} {w : Back} (h : atB id V = some w) : w.id = id := by
  unfold atB at h
  rcases found (fun v : Back => decide (v.id = id)) V with ⟨_, h2⟩ | ⟨k, x, h1, h2, h3⟩
  · rw [h2] at h; cases h
  · rw [h2] at h
    injection h with h; subst h
    rcases findI_cases (fun v : Back => decide (v.id = id)) V with ⟨h4, _⟩ | ⟨k', y, h4, h5, h6, _⟩
    · rw [h4] at h1; omega
    · rw [h4] at h1
      have : k' = k := by omega
      subst this
      rw [h3] at h5; injection h5 with h5; subst h5
      exact of_decide_eq_true h6

end Go.Proofs.YtooaeccmkgockaaGreatDoor.V
namespace Go.Proofs.YtooaeccmkgockaaGreatDoor.V
open Go.RowKit
attribute [local irreducible] Fn OpVC

structure Ord where
  count : Int
  op : Int
  id : Int
  vip : Int
  addr : Int
  port : Int
  proto : Int
  num : Int
def ordD (o : Ord) : List D := [.v (.int .u64 o.count), intD o.op, intD o.id, intD o.vip, .v (.int .u32 o.addr), .v (.int .u16 o.port), .v (.int .u8 o.proto), intD o.num]
abbrev rowsO (L : List Ord) : D := .rows Ord 8 ordD L

theorem flat_snoc {α β : Type} {L : List α} {k : Nat} {x : α} (h : L[k]? = some x) (f : α → List β) : (L.take (k + 1)).flatMap f = (L.take k).flatMap f ++ f x := by
  rw [take_snoc h, List.flatMap_append]; simp
def modeOf (W : List Vip) (v : Vip) : Int := match atV v.id W with
  | none => 0
  | some w => w.mode
def modes1 (W : List Vip) (v : Vip) : List Ord := match decide (modeOf W v = v.mode) with
  | true => []
  | false => [⟨0, 6, v.id, 0, 0, 0, 0, modeOf W v⟩]
def removes1 (B' : List Back) (x : Back) : List Ord := match leavesB x B' with
  | true => [⟨0, 3, x.id, 0, 0, 0, 0, 0⟩]
  | false => []
def adds1 (V : List Vip) (v : Vip) : List Ord := match atV v.id V with
  | none => [⟨0, 1, v.id, 0, v.addr, v.port, v.proto, v.mode⟩]
  | some _ => []
def new1 (y : Back) : List Ord := match decide (y.life = 1) with
  | true => [⟨0, 2, y.id, y.vip, y.addr, 0, 0, y.weight⟩]
  | false => [⟨0, 2, y.id, y.vip, y.addr, 0, 0, y.weight⟩, ⟨0, 4, y.id, 0, 0, 0, 0, 0⟩]
def old1 (x y : Back) : List Ord := (match decide (x.weight = y.weight) with
  | true => []
  | false => [⟨0, 5, y.id, 0, 0, 0, 0, y.weight⟩]) ++ (match decide (x.life = y.life) with
  | true => []
  | false => [⟨0, 4, y.id, 0, 0, 0, 0, 0⟩])
def backs1 (B B' : List Back) (y : Back) : List Ord := match atB y.id B with
  | none => new1 y
  | some x => match leavesB x B' with
    | true => new1 y
    | false => old1 x y
end Go.Proofs.YtooaeccmkgockaaGreatDoor.V
namespace Go.Proofs.YtooaeccmkgockaaGreatDoor.V
open Go.RowKit
attribute [local irreducible] Fn OpVC

def num1 (last : Int) (i : Nat) (o : Ord) : Ord := { o with count := last + 1 + i }
def numTo (last : Int) (L : List Ord) (k : Nat) : List Ord := L.mapIdx fun i o => if i < k then num1 last i o else o
def orders (V W : List Vip) (B B' : List Back) : List Ord := V.flatMap (modes1 W) ++ B.flatMap (removes1 B') ++ W.flatMap (adds1 V) ++ B'.flatMap (backs1 B B')
noncomputable def between (V W : List Vip) (B B' : List Back) (last : Int) : Option (List Ord) := match mayB V B, mayB W B', decide (last ≥ 4611686018427387904), V.all (kept1 W) with
  | true, true, false, true => some (numTo last (orders V W B B') (orders V W B B').length)
  | _, _, _, _ => none
end Go.Proofs.YtooaeccmkgockaaGreatDoor.V
namespace Go.Proofs.YtooaeccmkgockaaGreatDoor.V
open Go.RowKit
attribute [local irreducible] Fn OpVC

theorem may_of {V : List Vip} {B : List Back} (h : mayB V B = true) : farmMay (V.map tupV) (B.map tupB) := by
  unfold mayB at h
  exact @of_decide_eq_true _ (Classical.propDecidable _) h
theorem atB_mem {id : Int} {B : List Back} {x : Back} (h : atB id B = some x) : x ∈ B := by
  unfold atB at h
  rcases found (fun b : Back => decide (b.id = id)) B with ⟨_, h2⟩ | ⟨k, y, _, h2, h3⟩
  · rw [h2] at h; cases h
  · rw [h2] at h; injection h with h; subst h; exact List.mem_of_getElem? h3

end Go.Proofs.YtooaeccmkgockaaGreatDoor.V
namespace Go.Proofs.YtooaeccmkgockaaGreatDoor.V
open Go.RowKit
attribute [local irreducible] Fn OpVC

def plain (b : Back) : Back := { b with up := false }
theorem plainly_fn (V : List Vip) (B : List Back) (hB : B.length ≤ 1000) : Fn Tryz.prog 21 [farmD V B] fun d => d = farmD V (B.map plain) := by
  refine fnOf [] Tryz.func21 rfl (by kernel_rfl) (Nat.le_of_ble_eq_true rfl) ?_
  conv => whnf
  refine ⟨Nat × List Back, fun p => ⟨[(4, intD p.1), (3, .loc 2 0), (2, .loc 1 0), (1, .loc 0 0)], [(0, .cells 45 [rowsV V, rowsB B]), (1, .cells 45 [.v (.slice none 0 0), .v (.slice none 0 0)]), (2, .cells 45 [rowsV V, .grow 3]), (3, .grow Back 81 6 backD p.2)], 4, ([], 0)⟩,
    fun p => p.1 ≤ B.length ∧ p.2 = (B.take p.1).map plain, fun p => B.length - p.1, ⟨(0, []), [], [3], ?_, Nat.zero_le _, rfl⟩, ?_⟩
  · repeat' (first | exact trivial | exact .inl (DLe.refl _) | exact .inl (DLe.nil _ _) | (refine .inr ⟨rfl, _, ?_, rfl⟩; rfl) | exact rfl | exact Nat.zero_le _ | constructor)
  · rintro ⟨k, L⟩ ⟨hk, hL⟩
    dsimp only at hk hL
    have hlen : L.length ≤ 1000 := by rw [hL, List.length_map, List.length_take]; omega
    conv => whnf
    refine Fork.intro (fun h1 => ?_) (fun h1 => ?_)
    · have hlt : (k : Int) < B.length := of_decide_eq_true h1
      conv => whnf
      refine ⟨rfl, ⟨by omega, hlt⟩, fun x hx => ?_⟩
      have hxk : B[k]? = some x := by simpa using hx
      conv => whnf
      (refine ⟨Nat.le_of_ble_eq_true rfl, ?_⟩; conv => whnf)
      refine ⟨Back, backD, L ++ [plain x], (by rw [List.map_append]; rfl), fun _ => rfl, by simp only [List.length_append, List.length_cons, List.length_nil]; omega, by simp only [List.length_append, List.length_cons, List.length_nil]; omega, rfl, ?_⟩
      conv => whnf
      rw [wrap_next (show k < B.length by omega) (by omega)]
      refine ⟨(k + 1, L ++ [plain x]), [(3, 5)], [], ?_, ⟨by show k + 1 ≤ _; omega, ?_⟩, by show B.length - (k + 1) < B.length - k; omega⟩
      · repeat' (first | exact trivial | exact .inl (DLe.refl _) | exact .inl (DLe.nil _ _) | (refine .inr ⟨rfl, _, ?_, rfl⟩; rfl) | exact rfl | exact Nat.zero_le _ | constructor)
      · show _ = (B.take (k + 1)).map plain
        rw [take_snoc hxk, List.map_append, hL]
        rfl
    · have hge : ¬ (k : Int) < B.length := of_decide_eq_false h1
      rw [List.take_of_length_le (by omega)] at hL
      rw [← hL]
      conv => whnf
      rfl

end Go.Proofs.YtooaeccmkgockaaGreatDoor.V
namespace Go.Proofs.YtooaeccmkgockaaGreatDoor.V
open Go.RowKit

theorem ins_perm {α : Type} {key : α → Int} {x : α} : ∀ l : List α, (insBy key x l).Perm (l ++ [x])
  | [] => List.Perm.refl _
  | y :: r => by
    simp only [insBy]
    split
    · exact (List.perm_append_comm (l₁ := [x]) (l₂ := y :: r))
    · exact (ins_perm r).cons y
theorem ins_sorted {α : Type} {key : α → Int} {x : α} : ∀ {l : List α}, l.Pairwise (fun a b => key a < key b) → (∀ y ∈ l, key y ≠ key x) → (insBy key x l).Pairwise (fun a b => key a < key b)
  | [], _, _ => by simp [insBy]
  | y :: r, h, hn => by
    rw [List.pairwise_cons] at h
    simp only [insBy]
    split
    · rename_i hlt
      have hlt := of_decide_eq_true hlt
      rw [List.pairwise_cons, List.pairwise_cons]
      refine ⟨fun z hz => ?_, h.1, h.2⟩
      rcases List.mem_cons.1 hz with rfl | hz
      · exact hlt
      · have := h.1 z hz; omega
    · rename_i hlt
      have hlt := of_decide_eq_false hlt
      have hne := hn y List.mem_cons_self
      rw [List.pairwise_cons]
      refine ⟨fun z hz => ?_, ins_sorted h.2 fun z hz => hn z (List.mem_cons_of_mem _ hz)⟩
      rcases ins_mem hz with rfl | hz
      · omega
      · exact h.1 z hz

structure Right (V : List Vip) (B : List Back) : Prop where
  lv : V.length ≤ 4
  lb : B.length ≤ 16
  sv : V.Pairwise (fun x y => x.id < y.id)
  pv : V.Pairwise (fun x y => sameAt y.addr y.port y.proto x = false)
  gv : ∀ v ∈ V, goodV v = true
  sb : B.Pairwise (fun x y => x.id < y.id)
  gb : ∀ b ∈ B, goodB b = true
  hv : ∀ b ∈ B, ∃ v ∈ V, v.id = b.vip

theorem specB_same (a : Int) : Go.Proofs.YtooaeccmkgockaaGreatDoor.specB a = specB a := by
  unfold Go.Proofs.YtooaeccmkgockaaGreatDoor.specB specB
  rw [Bool.eq_iff_iff]
  simp

theorem goodV_iff (v : Vip) (hv : v.ok) : goodV v = true ↔ vipMay (tupV v) := by
  unfold goodV vipMay tupV
  simp only [specB_same, Bool.and_eq_true, Bool.or_eq_true, decide_eq_true_eq, Bool.not_eq_true']
  have := hv.port
  constructor
  · rintro ⟨⟨⟨⟨h1, h2⟩, h3⟩, h4⟩, h5⟩
    refine ⟨h1, h2, h3, by omega, ?_⟩
    rcases h5 with ⟨h5, h6⟩ | ⟨h5, h6⟩
    · exact .inl ⟨h5, h6⟩
    · exact .inr ⟨h5, h6⟩
  · rintro ⟨h1, h2, h3, h4, h5⟩
    refine ⟨⟨⟨⟨h1, h2⟩, h3⟩, by omega⟩, ?_⟩
    rcases h5 with ⟨h5, h6⟩ | ⟨h5, h6⟩
    · exact .inl ⟨h5, h6⟩
    · exact .inr ⟨h5, h6⟩
theorem goodB_iff (b : Back) : goodB b = true ↔ backMay (tupB b) := by
  unfold goodB backMay tupB
  simp only [specB_same, Bool.and_eq_true, decide_eq_true_eq, Bool.not_eq_true']
  constructor
  · rintro ⟨⟨⟨⟨⟨⟨h1, h2⟩, h3⟩, h4⟩, h5⟩, h6⟩, h7⟩
    exact ⟨h1, h2, h3, h4, h5, by omega⟩
  · rintro ⟨h1, h2, h3, h4, h5, h6⟩
    exact ⟨⟨⟨⟨⟨⟨h1, h2⟩, h3⟩, h4⟩, h5⟩, by omega⟩, by omega⟩

theorem like_iff (x y : Vip) : vipLike (tupV x) (tupV y) ↔ sameAt x.addr x.port x.proto y = true := by
  unfold vipLike tupV sameAt
  simp only [Bool.and_eq_true, decide_eq_true_eq]
  constructor
  · rintro ⟨h1, h2, h3⟩; exact ⟨h1.symm, h2.symm, h3.symm⟩
  · rintro ⟨h1, h2, h3⟩; exact ⟨h1.symm, h2.symm, h3.symm⟩

theorem right_iff {V : List Vip} {B : List Back} (wV : ∀ v ∈ V, v.ok) : mayB V B = true ↔ Right V B := by
  constructor
  · intro h
    obtain ⟨h1, h2, h3, h4⟩ := may_of h
    rw [List.length_map] at h1 h2
    refine ⟨h1, h2, pairwise_get.2 fun i j x y hij hx hy => ?_, pairwise_get.2 fun i j x y hij hx hy => ?_, fun v hv => ?_, pairwise_get.2 fun i j x y hij hx hy => ?_, fun b hb => ?_, fun b hb => ?_⟩
    · exact ((h3 i _ (get_map tupV hx)).2 j _ hij (get_map tupV hy)).1
    · have := ((h3 i _ (get_map tupV hx)).2 j _ hij (get_map tupV hy)).2
      rw [like_iff] at this
      simpa using this
    · obtain ⟨i, hi⟩ := List.mem_iff_getElem?.1 hv
      exact (goodV_iff v (wV v hv)).2 (h3 i _ (get_map tupV hi)).1
    · exact (h4 i _ (get_map tupB hx)).2.1 j _ hij (get_map tupB hy)
    · obtain ⟨i, hi⟩ := List.mem_iff_getElem?.1 hb
      exact (goodB_iff b).2 (h4 i _ (get_map tupB hi)).1
    · obtain ⟨i, hi⟩ := List.mem_iff_getElem?.1 hb
      obtain ⟨u, hu, he⟩ := (h4 i _ (get_map tupB hi)).2.2
      obtain ⟨v, hv, rfl⟩ := List.mem_map.1 hu
      exact ⟨v, hv, he⟩
  · intro h
    unfold mayB
    refine @decide_eq_true _ (Classical.propDecidable _) ⟨by rw [List.length_map]; exact h.lv, by rw [List.length_map]; exact h.lb, fun i u hu => ?_, fun i u hu => ?_⟩
    · obtain ⟨v, hv, rfl⟩ := map_get hu
      refine ⟨(goodV_iff v (wV v (List.mem_of_getElem? hv))).1 (h.gv v (List.mem_of_getElem? hv)), fun j w hij hw => ?_⟩
      obtain ⟨x, hx, rfl⟩ := map_get hw
      refine ⟨pairwise_get.1 h.sv i j v x hij hv hx, ?_⟩
      rw [like_iff]
      have := pairwise_get.1 h.pv i j v x hij hv hx
      rw [this]; simp
    · obtain ⟨b, hb, rfl⟩ := map_get hu
      refine ⟨(goodB_iff b).1 (h.gb b (List.mem_of_getElem? hb)), fun j w hij hw => ?_, ?_⟩
      · obtain ⟨x, hx, rfl⟩ := map_get hw
        exact pairwise_get.1 h.sb i j b x hij hb hx
      · obtain ⟨v, hv, he⟩ := h.hv b (List.mem_of_getElem? hb)
        exact ⟨tupV v, List.mem_map.2 ⟨v, hv, rfl⟩, he⟩
end Go.Proofs.YtooaeccmkgockaaGreatDoor.V
