/-
  A struct of many cells read whole, and small laws on worlds that only grow. No condition.
  The walks of Special of layer 3, of the program and of the reference. Condition: an address is a u32.
  Farms in memory: addresses, backends and rows of them; which may be. No condition.
  slices.IndexFunc and ContainsFunc over rows of addresses and of backends; the program's and the reference's looking. Conditions: the row reads, the predicate's closure is a function that answers and changes nothing.
  farm.Right of the program: which farms may be. Condition: the farm's rows read.
  A region that draws its order, walked once, in an order that is given: what only reads is taken first, what writes or makes memory comes up alone. No condition.
  The reference's Right of layer 31: which farms may be. Written by program (gen_rright.py). Condition: the farm's rows read.
-/
import Derived.WalkKit
import Derived.WalkSpells
import Derived.WalkLawsBesides
import Derived.Deep.Light
import Derived.Deep.RegionHeld3
import Derived.Deep.MidRow
import Derived.Lib.Hide
import Derived.Test.YtooaeccmkgockaaGreatDoorProg
import Derived.LoopTactic
import Derived.Handy
import Derived.Deep.QuietTactic
import Derived.BigQuiet
namespace Go.Proofs.YtooaeccmkgockaaGreatDoor
open Go.RowKit

theorem ret_bool {a b : Bool} (h : a = b) : Ending.returned (.bool a) = .returned (.bool b) := by rw [h]

theorem below_next {B : Nat} {w w1 w2 : World} (h : Below B w w1) (hB : B ≤ w.heap.size) (hb : Below w1.heap.size w1 w2) : Below B w w2 := h.trans (hb.mono (Nat.le_trans hB h.size))
theorem below_step {w w1 w2 : World} (h : Below w.heap.size w w1) (hb : Below w1.heap.size w1 w2) : Below w.heap.size w w2 := below_next h (Nat.le_refl _) hb

theorem below_alloc_first (w : World) (o : Obj) : Below w.heap.size w (w.alloc o) := (Below.refl _ _).alloc (Nat.le_refl _) o

end Go.Proofs.YtooaeccmkgockaaGreatDoor
namespace Go.Proofs.YtooaeccmkgockaaGreatDoor
open Go.RowKit

def specB (a : Int) : Bool := a == 0 || a / 16777216 == 127 || decide (224 ≤ a / 16777216)

set_option maxHeartbeats 400000 in
theorem special_any (a : Int) (w : World) (_h0 : 0 ≤ a) (_h1 : a ≤ 4294967295) :
    Calls Tryz.prog 90 #[.int .u32 a] w fun e w' => e = .returned (.bool (specB a)) ∧ w = w' := by
  go_enter Tryz.func90, Tryz.ntmps90
  go_wp2
  all_goals
    go_ret
    refine ⟨ret_bool ?_, rfl⟩
    go_light
    grind [specB]

set_option maxHeartbeats 400000 in
theorem rspecial_any (a : Int) (w : World) (_h0 : 0 ≤ a) (_h1 : a ≤ 4294967295) :
    Calls Tryz.prog 94 #[.int .u32 a] w fun e w' => e = .returned (.bool (specB a)) ∧ w = w' := by
  go_enter Tryz.func94, Tryz.ntmps94
  go_wp2
  all_goals
    go_ret
    refine ⟨ret_bool ?_, rfl⟩
    go_light
    grind [specB]

end Go.Proofs.YtooaeccmkgockaaGreatDoor
namespace Go.Proofs.YtooaeccmkgockaaGreatDoor
open Go.RowKit

abbrev VipD := Int × Int × Int × Int × Int
abbrev BackD := Int × Int × Int × Int × Int × Bool

def vipV (v : VipD) : List Value := [.int .i64 v.1, .int .u32 v.2.1, .int .u16 v.2.2.1, .int .u8 v.2.2.2.1, .int .i64 v.2.2.2.2]
def backV (b : BackD) : List Value := [.int .i64 b.1, .int .i64 b.2.1, .int .u32 b.2.2.1, .int .i64 b.2.2.2.1, .int .i64 b.2.2.2.2.1, .bool b.2.2.2.2.2]

def vipW (v : VipD) : Prop := 0 ≤ v.2.1 ∧ v.2.1 ≤ 4294967295 ∧ 0 ≤ v.2.2.1 ∧ v.2.2.1 ≤ 65535 ∧ 0 ≤ v.2.2.2.1 ∧ v.2.2.2.1 ≤ 255
def backW (b : BackD) : Prop := 0 ≤ b.2.2.1 ∧ b.2.2.1 ≤ 4294967295

def RowsAt {α : Type} (w : World) (enc : α → List Value) (k : Nat) (p : Option Addr) (L : List α) : Prop :=
  ∀ i x, L[i]? = some x → ∃ b o, p = some ⟨b, o, none⟩ ∧ ∀ j c, (enc x)[j]? = some c → w.cell? ⟨b, o + i * k + j, none⟩ = some c

theorem RowsAt.below {α : Type} {w w' : World} {enc : α → List Value} {k : Nat} {p : Option Addr} {L : List α} (h : RowsAt w enc k p L) (hb : Below w.heap.size w w') : RowsAt w' enc k p L := by
  intro i x hx
  obtain ⟨b, o, hp, hc⟩ := h i x hx
  refine ⟨b, o, hp, fun j c hj => ?_⟩
  have h1 := hc j c hj
  rw [hb.cell (World.block_lt_of_cell? w _ h1)]
  exact h1

theorem RowsAt.take {α : Type} {w : World} {enc : α → List Value} {k : Nat} {p : Option Addr} {L : List α} (h : RowsAt w enc k p L) (n : Nat) : RowsAt w enc k p (L.take n) := by
  intro i x hx
  rw [List.getElem?_take] at hx
  split at hx
  · exact h i x hx
  · cases hx

def vipMay (v : VipD) : Prop := 1 ≤ v.1 ∧ v.1 ≤ 99 ∧ specB v.2.1 = false ∧ 0 < v.2.2.1 ∧ (v.2.2.2.2 = 1 ∧ (v.2.2.2.1 = 6 ∨ v.2.2.2.1 = 17) ∨ v.2.2.2.2 = 2 ∧ v.2.2.2.1 = 6)
def backMay (b : BackD) : Prop := 1 ≤ b.1 ∧ b.1 ≤ 999 ∧ specB b.2.2.1 = false ∧ 1 ≤ b.2.2.2.1 ∧ b.2.2.2.1 ≤ 8 ∧ (b.2.2.2.2.1 = 1 ∨ b.2.2.2.2.1 = 2)
def vipLike (v u : VipD) : Prop := v.2.1 = u.2.1 ∧ v.2.2.1 = u.2.2.1 ∧ v.2.2.2.1 = u.2.2.2.1

def farmMay (V : List VipD) (B : List BackD) : Prop :=
  V.length ≤ 4 ∧ B.length ≤ 16 ∧ (∀ (i : Nat) (v : VipD), V[i]? = some v → vipMay v ∧ ∀ (j : Nat) (u : VipD), j < i → V[j]? = some u → u.1 < v.1 ∧ ¬ vipLike v u) ∧
    ∀ (i : Nat) (b : BackD), B[i]? = some b → backMay b ∧ (∀ (j : Nat) (u : BackD), j < i → B[j]? = some u → u.1 < b.1) ∧ ∃ v ∈ V, v.1 = b.2.1

def AnsB (w : World) (p : Prop) (e : Ending) (w' : World) : Prop := ∃ r : Bool, e = .returned (.bool r) ∧ (r = true ↔ p) ∧ Below w.heap.size w w'
theorem AnsB.mk {w w' : World} {p : Prop} {e : Ending} (r : Bool) (h : e = .returned (.bool r)) (hp : r = true ↔ p) (hb : Below w.heap.size w w') : AnsB w p e w' := ⟨r, h, hp, hb⟩

theorem mayVip_any (v : VipD) (hv : vipW v) (w : World) : Calls Tryz.prog 66 #[.agg (vipV v).toArray] w (AnsB w (vipMay v)) := by
  obtain ⟨id, addr, port, proto, mode⟩ := v
  obtain ⟨h0, h1, h2, h3, h4, h5⟩ := hv
  simp only [vipV]
  go_enter Tryz.func66, Tryz.ntmps66
  go_wp2_with (first | (go_at_call 90; refine (special_any addr _ h0 h1).mono ?_; rintro e w' ⟨rfl, rfl⟩))
  all_goals go_ret
  all_goals refine AnsB.mk _ rfl ?_ (by first | exact below_alloc_first _ _ | exact (below_alloc_first _ _).alloc (by simp) _)
  all_goals go_light
  all_goals grind [vipMay, backMay, vipLike]

theorem mayBackend_any (b : BackD) (hb : backW b) (w : World) : Calls Tryz.prog 69 #[.agg (backV b).toArray] w (AnsB w (backMay b)) := by
  obtain ⟨id, vip, addr, weight, life, up⟩ := b
  obtain ⟨h0, h1⟩ := hb
  simp only [backV]
  go_enter Tryz.func69, Tryz.ntmps69
  go_wp2_with (first | (go_at_call 90; refine (special_any addr _ h0 h1).mono ?_; rintro e w' ⟨rfl, rfl⟩))
  all_goals go_ret
  all_goals refine AnsB.mk _ rfl ?_ (by first | exact below_alloc_first _ _ | exact (below_alloc_first _ _).alloc (by simp) _)
  all_goals go_light
  all_goals grind [vipMay, backMay, vipLike]

theorem goodVip_any (v : VipD) (hv : vipW v) (w : World) : Calls Tryz.prog 72 #[.agg (vipV v).toArray] w (AnsB w (vipMay v)) := by
  obtain ⟨id, addr, port, proto, mode⟩ := v
  obtain ⟨h0, h1, h2, h3, h4, h5⟩ := hv
  simp only [vipV]
  go_enter Tryz.func72, Tryz.ntmps72
  go_wp2_with (first | (go_at_call 94; refine (rspecial_any addr _ h0 h1).mono ?_; rintro e w' ⟨rfl, rfl⟩))
  all_goals go_ret
  all_goals refine AnsB.mk _ rfl ?_ (by first | exact below_alloc_first _ _ | exact (below_alloc_first _ _).alloc (by simp) _)
  all_goals go_light
  all_goals grind [vipMay, backMay, vipLike]

theorem goodBackend_any (b : BackD) (hb : backW b) (w : World) : Calls Tryz.prog 74 #[.agg (backV b).toArray] w (AnsB w (backMay b)) := by
  obtain ⟨id, vip, addr, weight, life, up⟩ := b
  obtain ⟨h0, h1⟩ := hb
  simp only [backV]
  go_enter Tryz.func74, Tryz.ntmps74
  go_wp2_with (first | (go_at_call 94; refine (rspecial_any addr _ h0 h1).mono ?_; rintro e w' ⟨rfl, rfl⟩))
  all_goals go_ret
  all_goals refine AnsB.mk _ rfl ?_ (by first | exact below_alloc_first _ _ | exact (below_alloc_first _ _).alloc (by simp) _)
  all_goals go_light
  all_goals grind [vipMay, backMay, vipLike]

theorem like_any (v u : VipD) (w : World) : Calls Tryz.prog 65 #[.agg (vipV v).toArray, .agg (vipV u).toArray] w (AnsB w (vipLike v u)) := by
  obtain ⟨id, addr, port, proto, mode⟩ := v
  obtain ⟨id2, addr2, port2, proto2, mode2⟩ := u
  simp only [vipV]
  go_enter Tryz.func65, Tryz.ntmps65
  go_wp2
  all_goals go_ret
  all_goals refine AnsB.mk _ rfl ?_ (by first | exact below_alloc_first _ _ | exact (below_alloc_first _ _).alloc (by simp) _)
  all_goals go_light
  all_goals grind [vipMay, backMay, vipLike]
end Go.Proofs.YtooaeccmkgockaaGreatDoor
namespace Go.Proofs.YtooaeccmkgockaaGreatDoor
open Go.RowKit

def firstAt {α : Type} (q : α → Prop) (L : List α) (k : Int) : Prop :=
  (k = -1 ∧ ∀ x ∈ L, ¬ q x) ∨ ∃ (n : Nat) (x : α), k = (n : Int) ∧ L[n]? = some x ∧ q x ∧ ∀ (j : Nat) (u : α), j < n → L[j]? = some u → ¬ q u

theorem firstAt_neg {α : Type} {q : α → Prop} {L : List α} {k : Int} (h : firstAt q L k) : k < 0 ↔ ∀ x ∈ L, ¬ q x := by
  rcases h with ⟨rfl, h⟩ | ⟨n, x, rfl, h1, h2, h3⟩
  · exact ⟨fun _ => h, fun _ => by omega⟩
  · constructor
    · intro h; omega
    · intro h; exact absurd h2 (h x (List.mem_of_getElem? h1))

theorem none_yet {α : Type} {q : α → Prop} {L : List α} {k : Nat} (hk : L.length ≤ k) (h : ∀ j u, j < k → L[j]? = some u → ¬ q u) : firstAt q L (-1) :=
  .inl ⟨rfl, fun x hx => by
    obtain ⟨i, hi, rfl⟩ := List.mem_iff_getElem.1 hx
    exact h i _ (by omega) (List.getElem?_eq_getElem hi)⟩

theorem vip_cells {w : World} {p : Option Addr} {L : List VipD} (h : RowsAt w vipV 5 p L) {i : Nat} {v : VipD} (hi : L[i]? = some v) :
    ∃ b o, p = some ⟨b, o, none⟩ ∧ w.cell? ⟨b, o + i * 5, none⟩ = some (.int .i64 v.1) ∧ w.cell? ⟨b, o + i * 5 + 1, none⟩ = some (.int .u32 v.2.1) ∧ w.cell? ⟨b, o + i * 5 + 2, none⟩ = some (.int .u16 v.2.2.1) ∧
      w.cell? ⟨b, o + i * 5 + 3, none⟩ = some (.int .u8 v.2.2.2.1) ∧ w.cell? ⟨b, o + i * 5 + 4, none⟩ = some (.int .i64 v.2.2.2.2) := by
  obtain ⟨b, o, hp, hc⟩ := h i v hi
  exact ⟨b, o, hp, hc 0 _ rfl, hc 1 _ rfl, hc 2 _ rfl, hc 3 _ rfl, hc 4 _ rfl⟩

theorem back_cells {w : World} {p : Option Addr} {L : List BackD} (h : RowsAt w backV 6 p L) {i : Nat} {v : BackD} (hi : L[i]? = some v) :
    ∃ b o, p = some ⟨b, o, none⟩ ∧ w.cell? ⟨b, o + i * 6, none⟩ = some (.int .i64 v.1) ∧ w.cell? ⟨b, o + i * 6 + 1, none⟩ = some (.int .i64 v.2.1) ∧ w.cell? ⟨b, o + i * 6 + 2, none⟩ = some (.int .u32 v.2.2.1) ∧
      w.cell? ⟨b, o + i * 6 + 3, none⟩ = some (.int .i64 v.2.2.2.1) ∧ w.cell? ⟨b, o + i * 6 + 4, none⟩ = some (.int .i64 v.2.2.2.2.1) ∧ w.cell? ⟨b, o + i * 6 + 5, none⟩ = some (.bool v.2.2.2.2.2) := by
  obtain ⟨b, o, hp, hc⟩ := h i v hi
  exact ⟨b, o, hp, hc 0 _ rfl, hc 1 _ rfl, hc 2 _ rfl, hc 3 _ rfl, hc 4 _ rfl, hc 5 _ rfl⟩

def AnsI (w : World) (p : Int → Prop) (e : Ending) (w' : World) : Prop := ∃ k : Int, e = .returned (.int .i64 k) ∧ p k ∧ Below w.heap.size w w'
theorem AnsI.mk {w w' : World} {p : Int → Prop} {e : Ending} (k : Int) (h : e = .returned (.int .i64 k)) (hp : p k) (hb : Below w.heap.size w w') : AnsI w p e w' := ⟨k, h, hp, hb⟩

def Asks {α : Type} (enc : α → List Value) (g : FuncId) (cap : Value) (q : α → Prop) (w : World) (L : List α) : Prop :=
  ∀ x ∈ L, ∀ w', Below w.heap.size w w' → Calls Tryz.prog g #[.agg (enc x).toArray, cap] w' (AnsB w' (q x))

theorem Asks.at {α : Type} {enc : α → List Value} {g : FuncId} {cap : Value} {q : α → Prop} {w : World} {L : List α} (h : Asks enc g cap q w L) {k : Nat} {x : α} (hx : L[k]? = some x) {w' : World} (hb : Below w.heap.size w w') :
    Calls Tryz.prog g #[.agg (enc x).toArray, cap] w' (AnsB w' (q x)) := h x (List.mem_of_getElem? hx) w' hb


set_option maxHeartbeats 400000 in
theorem index_vip1 (p : Option Addr) (c : Nat) (cap : Value) (q : VipD → Prop) (L : List VipD) (w : World) (hl : L.length ≤ 100) (hL : RowsAt w vipV 5 p L) (hq : Asks vipV 92 cap q w L) :
    Calls Tryz.prog 89 #[.slice p L.length c, .func (.func 92) #[] #[cap]] w (AnsI w (firstAt q L)) := by
  go_enter Tryz.func89, Tryz.ntmps89
  go_wp2
  go_loopw [4, 8] (fun _ i wr => ∃ k : Nat, k ≤ L.length ∧ i = .int .i64 k ∧ Below w.heap.size w wr ∧ ∀ (j : Nat) (u : VipD), j < k → L[j]? = some u → ¬ q u) (fun _ i => fun _ => L.length - (intOf i).toNat)
  case atStart => exact ⟨0, Nat.zero_le _, rfl, Below.refl _ _, fun j u h => by omega⟩
  case round =>
    obtain ⟨k, hk, rfl, hb, hno⟩ := hrel
    by_cases hkl : k < L.length
    · have hx : L[k]? = some L[k] := List.getElem?_eq_getElem hkl
      obtain ⟨b, o, rfl, h0, h1, h2, h3, h4⟩ := vip_cells (hL.below hb) hx
      have hcall := hq.at hx hb
      generalize L[k] = x at *
      go_wp2_with (first | (go_at_call 92; refine hcall.mono ?_; rintro _ w1 ⟨r, rfl, hr, hb1⟩))
      all_goals first
        | (have hr1 : r = true := (by assumption); have hqx := hr.1 hr1; go_ret; exact AnsI.mk _ rfl (.inr ⟨k, x, rfl, hx, hqx, hno⟩) (below_step hb hb1))
        | (have hr0 : r = false := (by assumption)
           have hnq : ¬ q x := fun h => (by have h2 := hr.2 h; rw [hr0] at h2; cases h2)
           refine ⟨⟨k + 1, (by omega), (by go_num), below_step hb hb1, fun j u hj hu => ?_⟩, (by simp only [intOf]; omega)⟩
           rcases Nat.lt_succ_iff_lt_or_eq.1 hj with h | rfl
           · exact hno j u h hu
           · rw [hx] at hu; injection hu with hu; subst hu; exact hnq)
    · go_wp2
      go_ret
      exact AnsI.mk _ rfl (none_yet (by omega) hno) hb

set_option maxHeartbeats 400000 in
theorem index_right1 (p : Option Addr) (c : Nat) (cap : Value) (q : VipD → Prop) (L : List VipD) (w : World) (hl : L.length ≤ 100) (hL : RowsAt w vipV 5 p L) (hq : Asks vipV 64 cap q w L) :
    Calls Tryz.prog 89 #[.slice p L.length c, .func (.func 64) #[] #[cap]] w (AnsI w (firstAt q L)) := by
  go_enter Tryz.func89, Tryz.ntmps89
  go_wp2
  go_loopw [4, 8] (fun _ i wr => ∃ k : Nat, k ≤ L.length ∧ i = .int .i64 k ∧ Below w.heap.size w wr ∧ ∀ (j : Nat) (u : VipD), j < k → L[j]? = some u → ¬ q u) (fun _ i => fun _ => L.length - (intOf i).toNat)
  case atStart => exact ⟨0, Nat.zero_le _, rfl, Below.refl _ _, fun j u h => by omega⟩
  case round =>
    obtain ⟨k, hk, rfl, hb, hno⟩ := hrel
    by_cases hkl : k < L.length
    · have hx : L[k]? = some L[k] := List.getElem?_eq_getElem hkl
      obtain ⟨b, o, rfl, h0, h1, h2, h3, h4⟩ := vip_cells (hL.below hb) hx
      have hcall := hq.at hx hb
      generalize L[k] = x at *
      go_wp2_with (first | (go_at_call 64; refine hcall.mono ?_; rintro _ w1 ⟨r, rfl, hr, hb1⟩))
      all_goals first
        | (have hr1 : r = true := (by assumption); have hqx := hr.1 hr1; go_ret; exact AnsI.mk _ rfl (.inr ⟨k, x, rfl, hx, hqx, hno⟩) (below_step hb hb1))
        | (have hr0 : r = false := (by assumption)
           have hnq : ¬ q x := fun h => (by have h2 := hr.2 h; rw [hr0] at h2; cases h2)
           refine ⟨⟨k + 1, (by omega), (by go_num), below_step hb hb1, fun j u hj hu => ?_⟩, (by simp only [intOf]; omega)⟩
           rcases Nat.lt_succ_iff_lt_or_eq.1 hj with h | rfl
           · exact hno j u h hu
           · rw [hx] at hu; injection hu with hu; subst hu; exact hnq)
    · go_wp2
      go_ret
      exact AnsI.mk _ rfl (none_yet (by omega) hno) hb

theorem contains_right1 (p : Option Addr) (c : Nat) (cap : Value) (q : VipD → Prop) (L : List VipD) (w : World) (hl : L.length ≤ 100) (hL : RowsAt w vipV 5 p L) (hq : Asks vipV 64 cap q w L) :
    Calls Tryz.prog 63 #[.slice p L.length c, .func (.func 64) #[] #[cap]] w (AnsB w (∃ x ∈ L, q x)) := by
  go_enter Tryz.func63, Tryz.ntmps63
  go_wp2_with (first | (go_at_call 89; refine (index_right1 p c cap q L _ hl hL hq).mono ?_; rintro _ w1 ⟨i, rfl, hi, hb1⟩))
  go_ret
  refine AnsB.mk _ rfl ?_ hb1
  have := firstAt_neg hi
  go_light
  grind

set_option maxHeartbeats 400000 in
theorem index_right2 (p : Option Addr) (c : Nat) (cap : Value) (q : BackD → Prop) (L : List BackD) (w : World) (hl : L.length ≤ 100) (hL : RowsAt w backV 6 p L) (hq : Asks backV 68 cap q w L) :
    Calls Tryz.prog 91 #[.slice p L.length c, .func (.func 68) #[] #[cap]] w (AnsI w (firstAt q L)) := by
  go_enter Tryz.func91, Tryz.ntmps91
  go_wp2
  go_loopw [4, 8] (fun _ i wr => ∃ k : Nat, k ≤ L.length ∧ i = .int .i64 k ∧ Below w.heap.size w wr ∧ ∀ (j : Nat) (u : BackD), j < k → L[j]? = some u → ¬ q u) (fun _ i => fun _ => L.length - (intOf i).toNat)
  case atStart => exact ⟨0, Nat.zero_le _, rfl, Below.refl _ _, fun j u h => by omega⟩
  case round =>
    obtain ⟨k, hk, rfl, hb, hno⟩ := hrel
    by_cases hkl : k < L.length
    · have hx : L[k]? = some L[k] := List.getElem?_eq_getElem hkl
      obtain ⟨b, o, rfl, h0, h1, h2, h3, h4, h5⟩ := back_cells (hL.below hb) hx
      have hcall := hq.at hx hb
      generalize L[k] = x at *
      go_wp2_with (first | (go_at_call 68; refine hcall.mono ?_; rintro _ w1 ⟨r, rfl, hr, hb1⟩))
      all_goals first
        | (have hr1 : r = true := (by assumption); have hqx := hr.1 hr1; go_ret; exact AnsI.mk _ rfl (.inr ⟨k, x, rfl, hx, hqx, hno⟩) (below_step hb hb1))
        | (have hr0 : r = false := (by assumption)
           have hnq : ¬ q x := fun h => (by have h2 := hr.2 h; rw [hr0] at h2; cases h2)
           refine ⟨⟨k + 1, (by omega), (by go_num), below_step hb hb1, fun j u hj hu => ?_⟩, (by simp only [intOf]; omega)⟩
           rcases Nat.lt_succ_iff_lt_or_eq.1 hj with h | rfl
           · exact hno j u h hu
           · rw [hx] at hu; injection hu with hu; subst hu; exact hnq)
    · go_wp2
      go_ret
      exact AnsI.mk _ rfl (none_yet (by omega) hno) hb

theorem contains_right2 (p : Option Addr) (c : Nat) (cap : Value) (q : BackD → Prop) (L : List BackD) (w : World) (hl : L.length ≤ 100) (hL : RowsAt w backV 6 p L) (hq : Asks backV 68 cap q w L) :
    Calls Tryz.prog 67 #[.slice p L.length c, .func (.func 68) #[] #[cap]] w (AnsB w (∃ x ∈ L, q x)) := by
  go_enter Tryz.func67, Tryz.ntmps67
  go_wp2_with (first | (go_at_call 91; refine (index_right2 p c cap q L _ hl hL hq).mono ?_; rintro _ w1 ⟨i, rfl, hi, hb1⟩))
  go_ret
  refine AnsB.mk _ rfl ?_ hb1
  have := firstAt_neg hi
  go_light
  grind
end Go.Proofs.YtooaeccmkgockaaGreatDoor
namespace Go.Proofs.YtooaeccmkgockaaGreatDoor
open Go.RowKit

theorem right1_asks (v : VipD) (b : Nat) (w : World) (L : List VipD) (h0 : w.cell? ⟨b, 0, none⟩ = some (.int .i64 v.1)) (h1 : w.cell? ⟨b, 1, none⟩ = some (.int .u32 v.2.1)) (h2 : w.cell? ⟨b, 2, none⟩ = some (.int .u16 v.2.2.1))
    (h3 : w.cell? ⟨b, 3, none⟩ = some (.int .u8 v.2.2.2.1)) (h4 : w.cell? ⟨b, 4, none⟩ = some (.int .i64 v.2.2.2.2)) :
    Asks vipV 64 (.pointer (some ⟨b, 0, none⟩)) (fun u => v.1 ≤ u.1 ∨ vipLike v u) w L := by
  intro u _ w' hb
  have g0 := (hb.cell (World.block_lt_of_cell? w _ h0)).trans h0
  have g1 := (hb.cell (World.block_lt_of_cell? w _ h1)).trans h1
  have g2 := (hb.cell (World.block_lt_of_cell? w _ h2)).trans h2
  have g3 := (hb.cell (World.block_lt_of_cell? w _ h3)).trans h3
  have g4 := (hb.cell (World.block_lt_of_cell? w _ h4)).trans h4
  have hlt := World.block_lt_of_cell? w' _ g0
  clear h0 h1 h2 h3 h4 hb
  have al : ∀ (o : Obj) (i : Nat) (x : Value), w'.cell? ⟨b, i, none⟩ = some x → (w'.alloc o).cell? ⟨b, i, none⟩ = some x := fun o i x hx => (World.cell?_alloc_lt w' o _ (by simpa using hlt)).trans hx
  have a0 := fun o => al o _ _ g0
  have a1 := fun o => al o _ _ g1
  have a2 := fun o => al o _ _ g2
  have a3 := fun o => al o _ _ g3
  have a4 := fun o => al o _ _ g4
  obtain ⟨id, addr, port, proto, mode⟩ := v
  obtain ⟨id2, addr2, port2, proto2, mode2⟩ := u
  simp only [vipV] at *
  go_enter Tryz.func64, Tryz.ntmps64
  go_wp2_with (first | (go_at_call 65; refine (like_any (id, addr, port, proto, mode) (id2, addr2, port2, proto2, mode2) _).mono ?_; rintro _ w1 ⟨r, rfl, hr, hb1⟩))
  all_goals go_ret
  all_goals refine AnsB.mk _ rfl ?_ (by first | exact below_alloc_first _ _ | exact below_step (below_alloc_first _ _) (by assumption))
  all_goals go_light
  all_goals grind [vipLike]

theorem right2_asks (v : BackD) (b : Nat) (w : World) (L : List BackD) (h0 : w.cell? ⟨b, 0, none⟩ = some (.int .i64 v.1)) : Asks backV 68 (.pointer (some ⟨b, 0, none⟩)) (fun u => v.1 ≤ u.1) w L := by
  intro u _ w' hb
  have g0 := (hb.cell (World.block_lt_of_cell? w _ h0)).trans h0
  have hlt := World.block_lt_of_cell? w' _ g0
  clear h0 hb
  have al : ∀ (o : Obj) (i : Nat) (x : Value), w'.cell? ⟨b, i, none⟩ = some x → (w'.alloc o).cell? ⟨b, i, none⟩ = some x := fun o i x hx => (World.cell?_alloc_lt w' o _ (by simpa using hlt)).trans hx
  have a0 := fun o => al o _ _ g0
  obtain ⟨id, vip, addr, weight, life, up⟩ := v
  obtain ⟨id2, vip2, addr2, weight2, life2, up2⟩ := u
  simp only [backV] at *
  go_enter Tryz.func68, Tryz.ntmps68
  go_wp2
  all_goals go_ret
  all_goals exact AnsB.mk _ rfl (by simp) (below_alloc_first _ _)

theorem vip1_asks (id : Int) (b : Nat) (w : World) (L : List VipD) (h0 : w.cell? ⟨b, 0, none⟩ = some (.int .i64 id)) : Asks vipV 92 (.pointer (some ⟨b, 0, none⟩)) (fun u => u.1 = id) w L := by
  intro u _ w' hb
  have g0 := (hb.cell (World.block_lt_of_cell? w _ h0)).trans h0
  have hlt := World.block_lt_of_cell? w' _ g0
  clear h0 hb
  have a0 : ∀ (o : Obj), (w'.alloc o).cell? ⟨b, 0, none⟩ = some (.int .i64 id) := fun o => (World.cell?_alloc_lt w' o _ (by simpa using hlt)).trans g0
  obtain ⟨id2, addr2, port2, proto2, mode2⟩ := u
  simp only [vipV] at *
  go_enter Tryz.func92, Tryz.ntmps92
  go_wp2
  all_goals go_ret
  all_goals exact AnsB.mk _ rfl (by simp) (below_alloc_first _ _)

theorem vip_any (pv : Option Addr) (sb : Value) (cv : Nat) (id : Int) (V : List VipD) (w : World) (hl : V.length ≤ 100) (hV : RowsAt w vipV 5 pv V) :
    Calls Tryz.prog 70 #[.agg #[.slice pv V.length cv, sb], .int .i64 id] w (AnsI w (firstAt (fun v : VipD => v.1 = id) V)) := by
  have hc := index_vip1 pv cv (.pointer (some ⟨w.heap.size + 1, 0, none⟩)) (fun v : VipD => v.1 = id) V ((w.alloc (.cells #[.slice pv V.length cv, sb] 45)).alloc (.cells #[.int .i64 id] 3)) hl
    (hV.below ((below_alloc_first w _).alloc (by simp) _)) (vip1_asks id _ _ _ (by simp))
  go_enter Tryz.func70, Tryz.ntmps70
  go_wp2_with (first | (go_at_call 89; refine hc.mono ?_; rintro _ w1 ⟨i, rfl, hi, hb1⟩))
  go_ret
  exact AnsI.mk _ rfl hi (below_next ((below_alloc_first w _).alloc (by simp) _) (by simp) hb1)

def vipsTo (V : List VipD) (k : Nat) : Prop := ∀ (i : Nat) (v : VipD), i < k → V[i]? = some v → vipMay v ∧ ∀ (j : Nat) (u : VipD), j < i → V[j]? = some u → u.1 < v.1 ∧ ¬ vipLike v u
def backsTo (V : List VipD) (B : List BackD) (k : Nat) : Prop := ∀ (i : Nat) (b : BackD), i < k → B[i]? = some b → backMay b ∧ (∀ (j : Nat) (u : BackD), j < i → B[j]? = some u → u.1 < b.1) ∧ ∃ v ∈ V, v.1 = b.2.1

theorem take_mem {α : Type} {V : List α} {k j : Nat} {u : α} (hj : j < k) (hu : V[j]? = some u) : u ∈ V.take k :=
  List.mem_of_getElem? (i := j) (by rw [List.getElem?_take_of_lt hj]; exact hu)
theorem mem_take {α : Type} {V : List α} {k : Nat} {u : α} (h : u ∈ V.take k) : ∃ j, j < k ∧ V[j]? = some u := by
  obtain ⟨j, hj, rfl⟩ := List.mem_iff_getElem.1 h
  have h1 : j < k := by simp at hj; omega
  exact ⟨j, h1, by rw [List.getElem_take]; exact List.getElem?_eq_getElem _⟩

theorem not_may_met {V : List VipD} {B : List BackD} {k : Nat} {x : VipD} (hx : V[k]? = some x) (h : ∃ u ∈ V.take k, x.1 ≤ u.1 ∨ vipLike x u) : ¬ farmMay V B := by
  rintro ⟨_, _, h3, _⟩
  obtain ⟨u, hu, h4⟩ := h
  obtain ⟨j, hj, hju⟩ := mem_take hu
  obtain ⟨h5, h6⟩ := (h3 k x hx).2 j u hj hju
  rcases h4 with h4 | h4
  · omega
  · exact h6 h4
theorem not_may_vip {V : List VipD} {B : List BackD} {k : Nat} {x : VipD} (hx : V[k]? = some x) (h : ¬ vipMay x) : ¬ farmMay V B := fun hm => h (hm.2.2.1 k x hx).1
theorem vipsTo_next {V : List VipD} {k : Nat} {x : VipD} (hx : V[k]? = some x) (hmet : ¬ ∃ u ∈ V.take k, x.1 ≤ u.1 ∨ vipLike x u) (hm : vipMay x) (h : vipsTo V k) : vipsTo V (k + 1) := by
  intro i v hi hv
  rcases Nat.lt_succ_iff_lt_or_eq.1 hi with hi | rfl
  · exact h i v hi hv
  · rw [hx] at hv; injection hv with hv; subst hv
    refine ⟨hm, fun j u hj hu => ⟨?_, fun hl => hmet ⟨u, take_mem hj hu, .inr hl⟩⟩⟩
    have h1 : ¬ x.1 ≤ u.1 := fun hle => hmet ⟨u, take_mem hj hu, .inl hle⟩
    omega
theorem not_may_bmet {V : List VipD} {B : List BackD} {k : Nat} {x : BackD} (hx : B[k]? = some x) (h : ∃ u ∈ B.take k, x.1 ≤ u.1) : ¬ farmMay V B := by
  rintro ⟨_, _, _, h3⟩
  obtain ⟨u, hu, h4⟩ := h
  obtain ⟨j, hj, hju⟩ := mem_take hu
  have h5 := (h3 k x hx).2.1 j u hj hju
  omega
theorem not_may_back {V : List VipD} {B : List BackD} {k : Nat} {x : BackD} (hx : B[k]? = some x) (h : ¬ backMay x) : ¬ farmMay V B := fun hm => h (hm.2.2.2 k x hx).1
theorem not_may_none {V : List VipD} {B : List BackD} {k : Nat} {x : BackD} (hx : B[k]? = some x) (h : ∀ v ∈ V, ¬ v.1 = x.2.1) : ¬ farmMay V B := fun hm => by
  obtain ⟨v, hv, h1⟩ := (hm.2.2.2 k x hx).2.2
  exact h v hv h1
theorem backsTo_next {V : List VipD} {B : List BackD} {k : Nat} {x : BackD} (hx : B[k]? = some x) (hmet : ¬ ∃ u ∈ B.take k, x.1 ≤ u.1) (hm : backMay x) (hv : ∃ v ∈ V, v.1 = x.2.1) (h : backsTo V B k) : backsTo V B (k + 1) := by
  intro i v hi hvv
  rcases Nat.lt_succ_iff_lt_or_eq.1 hi with hi | rfl
  · exact h i v hi hvv
  · rw [hx] at hvv; injection hvv with hvv; subst hvv
    refine ⟨hm, fun j u hj hu => ?_, hv⟩
    have h1 : ¬ x.1 ≤ u.1 := fun hle => hmet ⟨u, take_mem hj hu, hle⟩
    omega
theorem may_all {V : List VipD} {B : List BackD} (h1 : V.length ≤ 4) (h2 : B.length ≤ 16) (hv : vipsTo V V.length) (hb : backsTo V B B.length) : farmMay V B :=
  ⟨h1, h2, fun i v h => hv i v (List.getElem?_eq_some_iff.1 h).1 h, fun i b h => hb i b (List.getElem?_eq_some_iff.1 h).1 h⟩

set_option maxHeartbeats 1000000 in
theorem right_any (pv pb : Option Addr) (cv cb : Nat) (V : List VipD) (B : List BackD) (w : World) (hlv : V.length ≤ 100) (hlb : B.length ≤ 100) (hcv : V.length ≤ cv) (hcb : B.length ≤ cb) (hV : RowsAt w vipV 5 pv V) (hB : RowsAt w backV 6 pb B) (wV : ∀ v ∈ V, vipW v) (wB : ∀ b ∈ B, backW b) :
    Calls Tryz.prog 45 #[.agg #[.slice pv V.length cv, .slice pb B.length cb]] w (AnsB w (farmMay V B)) := by
  go_enter Tryz.func45, Tryz.ntmps45
  go_wp2
  · go_ret
    refine AnsB.mk _ rfl ?_ (below_alloc_first _ _)
    go_light
    simp [farmMay]; omega
  · go_loopw [3, 4, 22] (fun _ _ i wr => ∃ k : Nat, k ≤ V.length ∧ i = .int .i64 k ∧ Below (w.heap.size + 1) (w.alloc (.cells #[.slice pv V.length cv, .slice pb B.length cb] 45)) wr ∧ vipsTo V k) (fun _ _ i => fun _ => V.length - (intOf i).toNat)
    case atStart => exact ⟨0, Nat.zero_le _, rfl, Below.refl _ _, fun i v h => by omega⟩
    case round =>
      obtain ⟨k, hk, rfl, hb, hok⟩ := hrel
      have hbw : Below w.heap.size w wr := (below_alloc_first w _).trans (hb.mono (by omega))
      have f0 : wr.cell? ⟨w.heap.size, 0, none⟩ = some (.slice pv V.length cv) := (hb.cell (by simp)).trans (by simp)
      have f1 : wr.cell? ⟨w.heap.size, 1, none⟩ = some (.slice pb B.length cb) := (hb.cell (by simp)).trans (by simp)
      by_cases hkl : k < V.length
      · have hx : V[k]? = some V[k] := List.getElem?_eq_getElem hkl
        obtain ⟨b, o, rfl, h0, h1, h2, h3, h4⟩ := vip_cells (hV.below hbw) hx
        have hxV : V[k] ∈ V := List.getElem_mem hkl
        generalize V[k] = x at *
        have hlt : w.heap.size < wr.heap.size := by have := hb.size; simp at this; omega
        have fa : ∀ (ob : Obj) (i : Nat) (u : Value), wr.cell? ⟨w.heap.size, i, none⟩ = some u → (wr.alloc ob).cell? ⟨w.heap.size, i, none⟩ = some u := fun ob i u hu => (World.cell?_alloc_lt wr ob _ (by simpa using hlt)).trans hu
        have f0a := fun ob => fa ob 0 _ f0
        have f1a := fun ob => fa ob 1 _ f1
        have hcont := contains_right1 (some ⟨b, o, none⟩) cv (.pointer (some ⟨wr.heap.size, 0, none⟩)) (fun u => x.1 ≤ u.1 ∨ vipLike x u) (V.take k) (wr.alloc (.cells #[.int .i64 x.1, .int .u32 x.2.1, .int .u16 x.2.2.1, .int .u8 x.2.2.2.1, .int .i64 x.2.2.2.2] 79))
          (by first | (simp; done) | (simp; omega)) (((hV.below hbw).below (below_alloc_first _ _)).take k) (right1_asks x _ _ _ (by simp) (by simp) (by simp) (by simp) (by simp))
        rw [List.length_take, Nat.min_eq_left hk] at hcont
        have HC := Lib.hid hcont
        clear hcont fa
        go_wp2_with (first
          | (go_at_call 63; refine HC.out.mono ?_; rintro _ w1 ⟨r, rfl, hr, hb1⟩
             have g0 : w1.cell? ⟨wr.heap.size, 0, none⟩ = some (.int .i64 x.1) := (hb1.cell (by simp)).trans (by simp)
             have g1 : w1.cell? ⟨wr.heap.size, 1, none⟩ = some (.int .u32 x.2.1) := (hb1.cell (by simp)).trans (by simp)
             have g2 : w1.cell? ⟨wr.heap.size, 2, none⟩ = some (.int .u16 x.2.2.1) := (hb1.cell (by simp)).trans (by simp)
             have g3 : w1.cell? ⟨wr.heap.size, 3, none⟩ = some (.int .u8 x.2.2.2.1) := (hb1.cell (by simp)).trans (by simp)
             have g4 : w1.cell? ⟨wr.heap.size, 4, none⟩ = some (.int .i64 x.2.2.2.2) := (hb1.cell (by simp)).trans (by simp))
          | (go_at_call 66; refine (mayVip_any x (wV x hxV) _).mono ?_; rintro _ w2 ⟨r2, rfl, hr2, hb2⟩))
        · go_ret
          exact AnsB.mk _ rfl (by simp [not_may_met (B := B) hx (hr.1 (by assumption))]) (below_next (hbw.alloc (by omega) _) (by have hs1 := hb.size; have hs2 := hb1.size; first | omega | (simp at hs1 hs2 ⊢; done) | (simp at hs1 hs2 ⊢; omega) | (simp at hs1 hs2; omega)) hb1)
        · have hb12 := below_next (hbw.alloc (by omega) _) (by have hs1 := hb.size; have hs2 := hb1.size; first | omega | (simp at hs1 hs2 ⊢; done) | (simp at hs1 hs2 ⊢; omega) | (simp at hs1 hs2; omega)) hb1
          go_ret
          refine AnsB.mk _ rfl ?_ (below_next hb12 (by have hs1 := hb.size; have hs2 := hb1.size; first | omega | (simp at hs1 hs2 ⊢; done) | (simp at hs1 hs2 ⊢; omega) | (simp at hs1 hs2; omega)) hb2)
          have h2 : r2 = false := by simpa using (show (!r2) = true by assumption)
          simp [not_may_vip (B := B) hx (fun h => by rw [hr2.2 h] at h2; cases h2)]
        · have h2 : r2 = true := by simpa using (show (!r2) = false by assumption)
          have hmet : ¬ ∃ u ∈ V.take k, x.1 ≤ u.1 ∨ vipLike x u := fun h => (show ¬ r = true by assumption) (hr.2 h)
          refine ⟨⟨k + 1, by omega, by go_num, ?_, vipsTo_next hx hmet (hr2.1 h2) hok⟩, by simp only [intOf]; omega⟩
          exact below_next (below_next (hb.alloc (by omega) _) (by have hs1 := hb.size; have hs2 := hb1.size; first | omega | (simp at hs1 hs2 ⊢; done) | (simp at hs1 hs2 ⊢; omega) | (simp at hs1 hs2; omega)) hb1) (by have hs1 := hb.size; have hs2 := hb1.size; first | omega | (simp at hs1 hs2 ⊢; done) | (simp at hs1 hs2 ⊢; omega) | (simp at hs1 hs2; omega)) hb2
      · have hkv : k = V.length := by omega
        subst hkv
        go_wp2_with fail
        have hok1 := hok
        clear hok hk hkl f0 f1 hbw
        have hb0 := hb
        clear hb
        go_loopw [6, 7, 43] (fun _ _ i wr => ∃ k : Nat, k ≤ B.length ∧ i = .int .i64 k ∧ Below (w.heap.size + 1) (w.alloc (.cells #[.slice pv V.length cv, .slice pb B.length cb] 45)) wr ∧ backsTo V B k) (fun _ _ i => fun _ => B.length - (intOf i).toNat)
        case atStart => exact ⟨0, Nat.zero_le _, rfl, hb0, fun i v h => by omega⟩
        case round =>
          clear hb0
          obtain ⟨k, hk, rfl, hb, hok⟩ := hrel
          rename_i wr
          have hbw : Below w.heap.size w wr := (below_alloc_first w _).trans (hb.mono (by omega))
          have f0 : wr.cell? ⟨w.heap.size, 0, none⟩ = some (.slice pv V.length cv) := (hb.cell (by simp)).trans (by simp)
          have f1 : wr.cell? ⟨w.heap.size, 1, none⟩ = some (.slice pb B.length cb) := (hb.cell (by simp)).trans (by simp)
          by_cases hkl : k < B.length
          · have hx : B[k]? = some B[k] := List.getElem?_eq_getElem hkl
            obtain ⟨b, o, rfl, h0, h1, h2, h3, h4, h5⟩ := back_cells (hB.below hbw) hx
            have hxB : B[k] ∈ B := List.getElem_mem hkl
            generalize B[k] = x at *
            have hlt : w.heap.size < wr.heap.size := by have := hb.size; simp at this; omega
            have fa : ∀ (ob : Obj) (i : Nat) (u : Value), wr.cell? ⟨w.heap.size, i, none⟩ = some u → (wr.alloc ob).cell? ⟨w.heap.size, i, none⟩ = some u := fun ob i u hu => (World.cell?_alloc_lt wr ob _ (by simpa using hlt)).trans hu
            have f0a := fun ob => fa ob 0 _ f0
            have f1a := fun ob => fa ob 1 _ f1
            have hcont := contains_right2 (some ⟨b, o, none⟩) cb (.pointer (some ⟨wr.heap.size, 0, none⟩)) (fun u => x.1 ≤ u.1) (B.take k) (wr.alloc (.cells #[.int .i64 x.1, .int .i64 x.2.1, .int .u32 x.2.2.1, .int .i64 x.2.2.2.1, .int .i64 x.2.2.2.2.1, .bool x.2.2.2.2.2] 81))
              (by first | (simp; done) | (simp; omega)) (((hB.below hbw).below (below_alloc_first _ _)).take k) (right2_asks x _ _ _ (by simp))
            rw [List.length_take, Nat.min_eq_left hk] at hcont
            have HC := Lib.hid hcont
            clear hcont fa
            go_wp2_with (first
              | (go_at_call 67; refine HC.out.mono ?_; rintro _ w1 ⟨r, rfl, hr, hb1⟩
                 have g0 : w1.cell? ⟨wr.heap.size, 0, none⟩ = some (.int .i64 x.1) := (hb1.cell (by simp)).trans (by simp)
                 have g1 : w1.cell? ⟨wr.heap.size, 1, none⟩ = some (.int .i64 x.2.1) := (hb1.cell (by simp)).trans (by simp)
                 have g2 : w1.cell? ⟨wr.heap.size, 2, none⟩ = some (.int .u32 x.2.2.1) := (hb1.cell (by simp)).trans (by simp)
                 have g3 : w1.cell? ⟨wr.heap.size, 3, none⟩ = some (.int .i64 x.2.2.2.1) := (hb1.cell (by simp)).trans (by simp)
                 have g4 : w1.cell? ⟨wr.heap.size, 4, none⟩ = some (.int .i64 x.2.2.2.2.1) := (hb1.cell (by simp)).trans (by simp)
                 have g5 : w1.cell? ⟨wr.heap.size, 5, none⟩ = some (.bool x.2.2.2.2.2) := (hb1.cell (by simp)).trans (by simp)
                 have k0 : w1.cell? ⟨w.heap.size, 0, none⟩ = some (.slice pv V.length cv) := (hb1.cell (by first | (simp; done) | (simp; omega))).trans (f0a _)
                 have k1 : w1.cell? ⟨w.heap.size, 1, none⟩ = some (.slice (some ⟨b, o, none⟩) B.length cb) := (hb1.cell (by first | (simp; done) | (simp; omega))).trans (f1a _)
                 have hbw1 : Below w.heap.size w w1 := below_next (hbw.alloc (by omega) _) (by first | (simp; done) | (simp; omega)) hb1)
              | (go_at_call 69; refine (mayBackend_any x (wB x hxB) _).mono ?_; rintro _ w2 ⟨r2, rfl, hr2, hb2⟩
                 have m1 : w2.cell? ⟨wr.heap.size, 1, none⟩ = some (.int .i64 x.2.1) := (hb2.cell (World.block_lt_of_cell? _ _ g1)).trans g1
                 have n0 : w2.cell? ⟨w.heap.size, 0, none⟩ = some (.slice pv V.length cv) := (hb2.cell (World.block_lt_of_cell? _ _ k0)).trans k0
                 have n1 : w2.cell? ⟨w.heap.size, 1, none⟩ = some (.slice (some ⟨b, o, none⟩) B.length cb) := (hb2.cell (World.block_lt_of_cell? _ _ k1)).trans k1
                 have hbw2 : Below w.heap.size w w2 := below_step hbw1 hb2)
              | (go_at_call 70; refine (vip_any pv _ cv x.2.1 V _ hlv (hV.below hbw2)).mono ?_; rintro _ w3 ⟨i3, rfl, hi3, hb3⟩))
            all_goals try (exfalso; simp_all; done)
            · go_ret
              exact AnsB.mk _ rfl (by simp [not_may_bmet (V := V) hx (hr.1 (by assumption))]) hbw1
            · have hor : (!r2) = true ∨ i3 < 0 := by assumption
              go_ret
              refine AnsB.mk _ rfl ?_ (below_step hbw2 hb3)
              rcases hor with h2 | h2
              · have h2 : r2 = false := by simpa using h2
                simp [not_may_back (V := V) hx (fun h => by rw [hr2.2 h] at h2; cases h2)]
              · simp [not_may_none hx ((firstAt_neg hi3).1 h2)]
            · have hand : (!r2) = false ∧ 0 ≤ i3 := by assumption
              have h2 : r2 = true := by simpa using hand.1
              have hmet : ¬ ∃ u ∈ B.take k, x.1 ≤ u.1 := fun h => (show ¬ r = true by assumption) (hr.2 h)
              have hvv : ∃ v ∈ V, v.1 = x.2.1 := by
                refine Classical.byContradiction fun hn => ?_
                have h3 := (firstAt_neg hi3).2 (fun v hv he => hn ⟨v, hv, he⟩)
                omega
              refine ⟨⟨k + 1, by omega, by go_num, ?_, backsTo_next hx hmet (hr2.1 h2) hvv hok⟩, by simp only [intOf]; omega⟩
              exact below_next (below_next (below_next (hb.alloc (by omega) _) (by have hs1 := hb.size; have hs2 := hb1.size; have hs3 := hb2.size; first | omega | (simp at hs1 hs2 ⊢; done) | (simp at hs1 hs2 ⊢; omega) | (simp at hs1 hs2; omega)) hb1) (by have hs1 := hb.size; have hs2 := hb1.size; have hs3 := hb2.size; first | omega | (simp at hs1 hs2 ⊢; done) | (simp at hs1 hs2 ⊢; omega) | (simp at hs1 hs2; omega)) hb2) (by have hs1 := hb.size; have hs2 := hb1.size; have hs3 := hb2.size; first | omega | (simp at hs1 hs2 ⊢; done) | (simp at hs1 hs2 ⊢; omega) | (simp at hs1 hs2; omega)) hb3
            · have h2 : (!r2) = true := by
                have h3 : ¬ ((!r2) == false) = true := by assumption
                cases r2 <;> simp_all
              go_ret
              refine AnsB.mk _ rfl ?_ hbw2
              have h2 : r2 = false := by simpa using h2
              simp [not_may_back (V := V) hx (fun h => by rw [hr2.2 h] at h2; cases h2)]
          · have hkb : k = B.length := by omega
            subst hkb
            go_wp2
            go_ret
            exact AnsB.mk _ rfl (by simp [may_all (by omega) (by omega) hok1 hok]) hbw
  · go_ret
    refine AnsB.mk _ rfl ?_ (below_alloc_first _ _)
    go_light
    simp [farmMay]; omega
end Go.Proofs.YtooaeccmkgockaaGreatDoor
namespace Go.Proofs.YtooaeccmkgockaaGreatDoor
open Go.RowKit

def Since (V w : World) : Prop := Below V.heap.size V w
theorem Since.refl (V : World) : Since V V := Below.refl _ _
theorem Since.drew {V w : World} (h : Since V w) : Since V w.drew := Below.drew h
theorem Since.alloc {V w : World} (h : Since V w) (o : Obj) : Since V (w.alloc o) := Below.alloc h (Below.size h) o
theorem Since.next {V w w' : World} (h : Since V w) (hb : Below w.heap.size w w') : Since V w' := below_next h (Nat.le_refl _) hb
theorem Since.below {V w : World} (h : Since V w) : Below V.heap.size V w := h
theorem Since.lt {V w : World} (h : Since V w) : V.heap.size ≤ w.heap.size := Below.size h
theorem Since.trans {U V w : World} (h : Since U V) (h' : Since V w) : Since U w := below_next h (Nat.le_refl _) h'
theorem Since.first (w : World) (o : Obj) : Since w (w.alloc o) := (Since.refl w).alloc o

section
variable {P : Program} {ops : Array Oper} {Q : Exit → Act → World → Prop} {S : World → Prop}

def wpPlan (P : Program) (ops : Array Oper) (Q : Exit → Act → World → Prop) (S : World → Prop) : List (Nat × Bool) → Act → World → Prop
  | [], a, w => Q .normal a w
  | (i, solo) :: rest, a, w =>
    match ops[i]? with
    | none => False
    | some o =>
      if Region.wanted o (yielded ops a.tmps) = true then
        if solo = true then o.wp P a w (fun a' w' => S w' ∧ wpPlan P ops Q S rest a' w') Q
        else ∃ v, (∀ w, S w → (execOp a.eval o).run P w = .ok (.value v) w) ∧ wpPlan P ops Q S rest (a.put o.dst v) w
      else wpPlan P ops Q S rest (a.put o.dst undef) w

def planOk (ops : Array Oper) : List (Nat × Bool) → Array Bool → Bool
  | [], listed => (Region.ready .any ops listed).isEmpty
  | (i, solo) :: rest, listed => (if solo then Region.ready .any ops listed == [i] else Region.free .any ops listed i && (Region.ready .any ops listed).contains i) && planOk ops rest (listed.setIfInBounds i true)

theorem wpAnyH_plan (hs : Region.noSelect ops = true) (hQ : ∀ c a d v w, Q (.panic c) (Act.put a d v) w → Q (.panic c) a w) :
    ∀ (plan : List (Nat × Bool)) (listed : Array Bool) (a : Act) (w : World), planOk ops plan listed = true → S w → wpPlan P ops Q S plan a w → wpAnyH P .any ops Q S plan.length listed a w := by
  intro plan
  induction plan with
  | nil =>
    intro listed a w h _ hw
    simp only [planOk, List.isEmpty_iff] at h
    exact ⟨h, hw⟩
  | cons x rest ih =>
    obtain ⟨i, solo⟩ := x
    intro listed a w h hS hw
    simp only [planOk, Bool.and_eq_true] at h
    obtain ⟨h1, h2⟩ := h
    simp only [wpPlan] at hw
    cases ho : ops[i]? with
    | none => simp [ho] at hw
    | some o =>
      simp only [ho] at hw
      cases solo with
      | true =>
        simp only [if_true, beq_iff_eq] at h1 hw
        refine ⟨fun h0 => (by rw [h1] at h0; cases h0), fun j hj => ?_⟩
        rw [h1] at hj
        obtain rfl : j = i := by simpa using hj
        unfold wpOp
        simp only [ho]
        by_cases hwn : Region.wanted o (yielded ops a.tmps) = true
        · simp only [hwn, if_true] at hw ⊢
          left
          exact Oper.wp_mono (fun a1 w1 hk => ⟨hk.1, ih _ _ _ h2 hk.1 hk.2⟩) hw
        · simp only [hwn, if_false, Bool.false_eq_true] at hw ⊢
          exact ⟨hS, ih _ _ _ h2 hS hw⟩
      | false =>
        simp only [Bool.false_eq_true, if_false, Bool.and_eq_true] at h1 hw
        by_cases hwn : Region.wanted o (yielded ops a.tmps) = true
        · simp only [hwn, if_true] at hw
          obtain ⟨v, hv, hr⟩ := hw
          exact wpAnyH_take ho hs h1.1 h1.2 (fun c a w => hQ c a o.dst v w) (.inl ⟨hwn, hv⟩) hS (ih _ _ _ h2 hS hr)
        · simp only [hwn, if_false, Bool.false_eq_true] at hw
          exact wpAnyH_take (v := undef) ho hs h1.1 h1.2 (fun c a w => hQ c a o.dst undef w) (.inr ⟨by simpa using hwn, rfl⟩) hS (ih _ _ _ h2 hS hw)

theorem wp_region_plan (S : World → Prop) (plan : List (Nat × Bool)) {id : Nat} {l : List Oper} {a : Act} {w : World} (hm : P.follows .mixedOrders = true) (hs : Region.noSelect l.toArray = true)
    (hp : (decide (plan.length = l.length) && planOk l.toArray plan (Array.replicate l.toArray.size false)) = true)
    (hQ : ∀ c a d v w, Q (.panic c) (Act.put a d v) w → Q (.panic c) a w) (hS : S w.drew) (h : wpPlan P l.toArray Q S plan a w.drew) : (Code.region id l.toArray true).wp P Q a w := by
  simp only [Bool.and_eq_true, decide_eq_true_eq] at hp
  refine wp_region_held_drew hm hS (fun _ => ?_)
  have := wpAnyH_plan (S := S) hs hQ plan _ a w.drew hp.2 hS h
  rw [hp.1] at this
  simpa using this

theorem wpPlan_nil {a : Act} {w : World} (h : Q .normal a w) : wpPlan P ops Q S [] a w := h

theorem wpPlan_skip {i : Nat} {solo : Bool} {rest : List (Nat × Bool)} {o : Oper} {a : Act} {w : World} (ho : ops[i]? = some o) (hw : Region.wanted o (yielded ops a.tmps) = false)
    (h : wpPlan P ops Q S rest (a.put o.dst undef) w) : wpPlan P ops Q S ((i, solo) :: rest) a w := by
  simp only [wpPlan, ho, hw, Bool.false_eq_true, if_false]; exact h

theorem wpPlan_pure {i : Nat} {rest : List (Nat × Bool)} {o : Oper} {a : Act} {w : World} (ho : ops[i]? = some o) (hw : Region.wanted o (yielded ops a.tmps) = true)
    (v : Value) (hv : ∀ w, S w → (execOp a.eval o).run P w = .ok (.value v) w) (h : wpPlan P ops Q S rest (a.put o.dst v) w) : wpPlan P ops Q S ((i, false) :: rest) a w := by
  simp only [wpPlan, ho, hw, Bool.false_eq_true, if_false, if_true]; exact ⟨v, hv, h⟩

theorem wpPlan_solo {i : Nat} {rest : List (Nat × Bool)} {o : Oper} {a : Act} {w : World} (ho : ops[i]? = some o) (hw : Region.wanted o (yielded ops a.tmps) = true)
    (h : ∀ K : Act → World → Prop, Shut (∀ a w, S w → wpPlan P ops Q S rest a w → K a w) → o.wp P a w K Q) : wpPlan P ops Q S ((i, true) :: rest) a w := by
  simp only [wpPlan, ho, hw, if_true]; exact h _ (fun _ _ h1 h2 => ⟨h1, h2⟩)

theorem wanted_none {o : Oper} {y : Nat → Option Bool} (hg : o.guard = none) : Region.wanted o y = true := by simp [Region.wanted, hg]
theorem wanted_yes {o : Oper} {y : Nat → Option Bool} {j : Nat} {b : Bool} (hg : o.guard = some (j, b)) (hy : y j = some b) : Region.wanted o y = true := by simp [Region.wanted, hg, hy]
theorem unwanted {o : Oper} {y : Nat → Option Bool} {j : Nat} {b b' : Bool} (hg : o.guard = some (j, b)) (hy : y j = some b') (hn : (b' == b) = false) : Region.wanted o y = false := by
  simp only [beq_eq_false_iff_ne] at hn
  simp [Region.wanted, hg, hy, hn]
theorem unwanted_none {o : Oper} {y : Nat → Option Bool} {j : Nat} {b : Bool} (hg : o.guard = some (j, b)) (hy : y j = none) : Region.wanted o y = false := by simp [Region.wanted, hg, hy]

def regionOf (n : Nat) : Code → Option (Array Oper)
  | .region id ops _ => if id = n then some ops else none
  | .seq a b => (regionOf n a).orElse fun _ => regionOf n b
  | .block _ c => regionOf n c
  | .loop c => regionOf n c
  | .scope c => regionOf n c
  | .cond _ a b => (regionOf n a).orElse fun _ => regionOf n b
  | _ => none

/-! ### The text's own order -/

def wpLexP (P : Program) (ops : Array Oper) (Q : Exit → Act → World → Prop) (S : World → Prop) : List Oper → List Bool → Act → World → Prop
  | [], [], a, w => Q .normal a w
  | o :: rest, solo :: fl, a, w =>
    if Region.wanted o (yielded ops a.tmps) = true then
      if solo = true then o.wp P a w (fun a' w' => S w' ∧ wpLexP P ops Q S rest fl a' w') Q
      else ∃ v, (∀ w, S w → (execOp a.eval o).run P w = .ok (.value v) w) ∧ wpLexP P ops Q S rest fl (a.put o.dst v) w
    else wpLexP P ops Q S rest fl (a.put o.dst undef) w
  | _, _, _, _ => False

theorem wpPlan_lex : ∀ (l : List Oper) (fl : List Bool) (k : Nat) (a : Act) (w : World), (∀ j, l[j]? = ops[k + j]?) → wpLexP P ops Q S l fl a w → wpPlan P ops Q S ((List.range' k l.length).zip fl) a w := by
  intro l
  induction l with
  | nil => intro fl k a w _ h; cases fl <;> simp only [wpLexP] at h; simpa [wpPlan] using h
  | cons o l ih =>
    intro fl k a w hl h
    cases fl with
    | nil => simp [wpLexP] at h
    | cons s fl =>
      have h0 : ops[k]? = some o := by simpa using (hl 0).symm
      have ih' := fun a w => ih fl (k + 1) a w (fun j => by have := hl (j + 1); simpa [Nat.add_assoc, Nat.add_comm 1 j] using this)
      simp only [List.length_cons, List.range'_succ, List.zip_cons_cons, wpPlan, h0]
      simp only [wpLexP] at h
      split
      · rename_i hw
        simp only [hw, if_true] at h
        split
        · rename_i hs
          simp only [hs, if_true] at h
          exact Oper.wp_mono (fun a1 w1 hk => ⟨hk.1, ih' _ _ hk.2⟩) h
        · rename_i hs
          simp only [hs, Bool.false_eq_true, if_false] at h
          obtain ⟨v, hv, hr⟩ := h
          exact ⟨v, hv, ih' _ _ hr⟩
      · rename_i hw
        simp only [hw, if_false, Bool.false_eq_true] at h
        exact ih' _ _ h

def lexOk (ops : Array Oper) (fl : List Bool) : Bool := Region.noSelect ops && (decide (((List.range' 0 ops.size).zip fl).length = ops.size) && planOk ops ((List.range' 0 ops.size).zip fl) (Array.replicate ops.size false))

theorem wp_region_lexp (S : World → Prop) (fl : List Bool) {id : Nat} {l : List Oper} {a : Act} {w : World} (hm : P.follows .mixedOrders = true) (hp : lexOk l.toArray fl = true)
    (hQ : ∀ c a d v w, Q (.panic c) (Act.put a d v) w → Q (.panic c) a w) (hS : S w.drew) (h : wpLexP P l.toArray Q S l fl a w.drew) : (Code.region id l.toArray true).wp P Q a w := by
  simp only [lexOk, List.size_toArray, Bool.and_eq_true] at hp
  exact wp_region_plan S _ hm hp.1 (by simpa only [List.size_toArray, Bool.and_eq_true] using hp.2) hQ hS (wpPlan_lex l fl 0 a w.drew (by simp) h)

theorem wpLexP_nil {a : Act} {w : World} (h : Q .normal a w) : wpLexP P ops Q S [] [] a w := h

theorem wpLexP_skip {solo : Bool} {fl : List Bool} {rest : List Oper} {o : Oper} {a : Act} {w : World} (hw : Region.wanted o (yielded ops a.tmps) = false)
    (h : wpLexP P ops Q S rest fl (a.put o.dst undef) w) : wpLexP P ops Q S (o :: rest) (solo :: fl) a w := by
  simp only [wpLexP, hw, Bool.false_eq_true, if_false]; exact h

theorem wpLexP_pure {fl : List Bool} {rest : List Oper} {o : Oper} {a : Act} {w : World} (hw : Region.wanted o (yielded ops a.tmps) = true)
    (v : Value) (hv : ∀ w, S w → (execOp a.eval o).run P w = .ok (.value v) w) (h : wpLexP P ops Q S rest fl (a.put o.dst v) w) : wpLexP P ops Q S (o :: rest) (false :: fl) a w := by
  simp only [wpLexP, hw, Bool.false_eq_true, if_false, if_true]; exact ⟨v, hv, h⟩

theorem wpLexP_solo {fl : List Bool} {rest : List Oper} {o : Oper} {a : Act} {w : World} (hw : Region.wanted o (yielded ops a.tmps) = true)
    (h : ∀ K : Act → World → Prop, Shut (∀ a w, S w → wpLexP P ops Q S rest fl a w → K a w) → o.wp P a w K Q) : wpLexP P ops Q S (o :: rest) (true :: fl) a w := by
  simp only [wpLexP, hw, if_true]; exact h _ (fun _ _ h1 h2 => ⟨h1, h2⟩)
end
attribute [irreducible] wpLexP
end Go.Proofs.YtooaeccmkgockaaGreatDoor
namespace Go.Proofs.YtooaeccmkgockaaGreatDoor
open Go.RowKit

set_option maxHeartbeats 400000 in
theorem vipAt_any (p : Option Addr) (s : Value) (c : Nat) (id : Int) (L : List VipD) (w : World) (hl : L.length ≤ 100) (hL : RowsAt w vipV 5 p L) :
    Calls Tryz.prog 75 #[.agg #[.slice p L.length c, s], .int .i64 id] w (AnsI w (firstAt (fun u : VipD => u.1 = id) L)) := by
  have hb0 := below_alloc_first w (.cells #[.slice p L.length c, s] 45)
  have hL1 := hL.below hb0
  go_enter Tryz.func75, Tryz.ntmps75
  go_wp2
  go_loop [5] (fun i => ∃ k : Nat, k ≤ L.length ∧ i = .int .i64 k ∧ ∀ (j : Nat) (u : VipD), j < k → L[j]? = some u → ¬ (u.1 = id)) (fun i => L.length - (intOf i).toNat)
  case atStart => exact ⟨0, Nat.zero_le _, rfl, fun j u h => by omega⟩
  case round =>
    obtain ⟨k, hk, rfl, hno⟩ := hrel
    by_cases hkl : k < L.length
    · have hx : L[k]? = some L[k] := List.getElem?_eq_getElem hkl
      obtain ⟨b, o, rfl, h0, h1, h2, h3, h4⟩ := vip_cells hL1 hx
      generalize L[k] = x at *
      go_wp2
      all_goals first
        | (go_ret; exact AnsI.mk _ rfl (.inr ⟨k, x, rfl, hx, by simp_all, hno⟩) hb0)
        | (refine ⟨⟨k + 1, (by omega), (by go_num), fun j u hj hu => ?_⟩, (by simp only [intOf]; omega)⟩
           rcases Nat.lt_succ_iff_lt_or_eq.1 hj with h | rfl
           · exact hno j u h hu
           · rw [hx] at hu; injection hu with hu; subst hu; simp_all)
    · go_wp2
      go_ret
      exact AnsI.mk _ rfl (none_yet (by omega) hno) hb0

set_option maxHeartbeats 400000 in
theorem where_any (p : Option Addr) (s : Value) (c : Nat) (a q t : Int) (L : List VipD) (w : World) (hl : L.length ≤ 100) (hL : RowsAt w vipV 5 p L) :
    Calls Tryz.prog 73 #[.agg #[.slice p L.length c, s], .int .u32 a, .int .u16 q, .int .u8 t] w (AnsI w (firstAt (fun u : VipD => u.2.1 = a ∧ u.2.2.1 = q ∧ u.2.2.2.1 = t) L)) := by
  have hb0 := below_alloc_first w (.cells #[.slice p L.length c, s] 45)
  have hL1 := hL.below hb0
  go_enter Tryz.func73, Tryz.ntmps73
  go_wp2
  go_loop [9] (fun i => ∃ k : Nat, k ≤ L.length ∧ i = .int .i64 k ∧ ∀ (j : Nat) (u : VipD), j < k → L[j]? = some u → ¬ (u.2.1 = a ∧ u.2.2.1 = q ∧ u.2.2.2.1 = t)) (fun i => L.length - (intOf i).toNat)
  case atStart => exact ⟨0, Nat.zero_le _, rfl, fun j u h => by omega⟩
  case round =>
    obtain ⟨k, hk, rfl, hno⟩ := hrel
    by_cases hkl : k < L.length
    · have hx : L[k]? = some L[k] := List.getElem?_eq_getElem hkl
      obtain ⟨b, o, rfl, h0, h1, h2, h3, h4⟩ := vip_cells hL1 hx
      generalize L[k] = x at *
      go_wp2
      all_goals first
        | (go_ret; exact AnsI.mk _ rfl (.inr ⟨k, x, rfl, hx, by simp_all, hno⟩) hb0)
        | (refine ⟨⟨k + 1, (by omega), (by go_num), fun j u hj hu => ?_⟩, (by simp only [intOf]; omega)⟩
           rcases Nat.lt_succ_iff_lt_or_eq.1 hj with h | rfl
           · exact hno j u h hu
           · rw [hx] at hu; injection hu with hu; subst hu; simp_all)
    · go_wp2
      go_ret
      exact AnsI.mk _ rfl (none_yet (by omega) hno) hb0

theorem vipsTo_step {V : List VipD} {k : Nat} {x : VipD} (hx : V[k]? = some x) (hm : vipMay x) (hadj : ∀ y, 0 < k → V[k - 1]? = some y → y.1 < x.1) (hw : firstAt (fun u : VipD => u.2.1 = x.2.1 ∧ u.2.2.1 = x.2.2.1 ∧ u.2.2.2.1 = x.2.2.2.1) V (k : Int)) (h : vipsTo V k) : vipsTo V (k + 1) := by
  have hlen : k < V.length := (List.getElem?_eq_some_iff.1 hx).1
  refine vipsTo_next hx ?_ hm h
  rintro ⟨u, hu, h1⟩
  obtain ⟨j, hj, hju⟩ := mem_take hu
  rcases h1 with h1 | h1
  · have hy : V[k - 1]? = some V[k - 1] := List.getElem?_eq_getElem (by omega)
    have h2 := hadj _ (by omega) hy
    by_cases hjk : j = k - 1
    · subst hjk; rw [hju] at hy; injection hy with hy; rw [← hy] at h2; omega
    · have h3 := ((h (k - 1) _ (by omega) hy).2 j u (by omega) hju).1
      omega
  · rcases hw with ⟨h2, _⟩ | ⟨n, z, h2, _, _, h3⟩
    · omega
    · have : n = k := by omega
      subst this
      exact h3 j u hj hju ⟨h1.1.symm, h1.2.1.symm, h1.2.2.symm⟩
theorem not_may_where {V : List VipD} {B : List BackD} {k : Nat} {x : VipD} {i : Int} (hx : V[k]? = some x) (hw : firstAt (fun u : VipD => u.2.1 = x.2.1 ∧ u.2.2.1 = x.2.2.1 ∧ u.2.2.2.1 = x.2.2.2.1) V i) (hi : i ≠ k) : ¬ farmMay V B := by
  rintro ⟨_, _, h3, _⟩
  rcases hw with ⟨_, h2⟩ | ⟨n, z, rfl, hz, hq, h4⟩
  · exact h2 x (List.mem_of_getElem? hx) ⟨rfl, rfl, rfl⟩
  · by_cases hnk : n < k
    · exact ((h3 k x hx).2 n z hnk hz).2 ⟨hq.1.symm, hq.2.1.symm, hq.2.2.symm⟩
    · exact h4 k x (by omega) hx ⟨rfl, rfl, rfl⟩
theorem not_may_adj {V : List VipD} {B : List BackD} {k : Nat} {x y : VipD} (hx : V[k + 1]? = some x) (hy : V[k]? = some y) (h : x.1 ≤ y.1) : ¬ farmMay V B := by
  rintro ⟨_, _, h3, _⟩
  have := ((h3 (k + 1) x hx).2 k y (by omega) hy).1
  omega
theorem not_may_badj {V : List VipD} {B : List BackD} {k : Nat} {x y : BackD} (hx : B[k + 1]? = some x) (hy : B[k]? = some y) (h : x.1 ≤ y.1) : ¬ farmMay V B := by
  rintro ⟨_, _, _, h3⟩
  have := (h3 (k + 1) x hx).2.1 k y (by omega) hy
  omega
theorem backsTo_step {V : List VipD} {B : List BackD} {k : Nat} {x : BackD} (hx : B[k]? = some x) (hm : backMay x) (hadj : ∀ y, 0 < k → B[k - 1]? = some y → y.1 < x.1) (hv : ∃ v ∈ V, v.1 = x.2.1) (h : backsTo V B k) : backsTo V B (k + 1) := by
  have hlen : k < B.length := (List.getElem?_eq_some_iff.1 hx).1
  refine backsTo_next hx ?_ hm hv h
  rintro ⟨u, hu, h1⟩
  obtain ⟨j, hj, hju⟩ := mem_take hu
  have hy : B[k - 1]? = some B[k - 1] := List.getElem?_eq_getElem (by omega)
  have h2 := hadj _ (by omega) hy
  by_cases hjk : j = k - 1
  · subst hjk; rw [hju] at hy; injection hy with hy; rw [← hy] at h2; omega
  · have h3 := (h (k - 1) _ (by omega) hy).2.1 j u (by omega) hju
    omega

theorem rright7_sel : Region.noSelect ((regionOf 7 (Tryz.f48.body.getD .skip)).getD #[]) = true := by kernel_rfl
theorem rright7_ok : (decide ([(0, false), (1, true), (2, false), (3, false), (4, false), (5, false), (6, false), (7, false), (8, false), (9, false), (10, false), (11, false), (12, false), (13, false), (14, false), (15, false), (16, false), (17, false), (18, false), (19, false), (20, false), (21, false), (22, false), (23, false), (24, false), (25, false), (26, false), (28, false), (27, true), (29, false), (30, false)].length = ((regionOf 7 (Tryz.f48.body.getD .skip)).getD #[]).size) && planOk ((regionOf 7 (Tryz.f48.body.getD .skip)).getD #[]) [(0, false), (1, true), (2, false), (3, false), (4, false), (5, false), (6, false), (7, false), (8, false), (9, false), (10, false), (11, false), (12, false), (13, false), (14, false), (15, false), (16, false), (17, false), (18, false), (19, false), (20, false), (21, false), (22, false), (23, false), (24, false), (25, false), (26, false), (28, false), (27, true), (29, false), (30, false)] (Array.replicate ((regionOf 7 (Tryz.f48.body.getD .skip)).getD #[]).size false)) = true := by kernel_rfl
theorem rright13_ok : lexOk ((regionOf 13 (Tryz.f48.body.getD .skip)).getD #[]) [false, true, false, false, false, false, false, false, false, false, false, false, false, false, false, false, false, false, false, false, false, false, false, true, false, false] = true := by kernel_rfl

theorem region_two {P : Program} {C : Code} {a : Act} {w : World} {Q : Exit → Act → World → Prop} (hQ : ∀ c a d v w, Q (.panic c) (Act.put a d v) w → Q (.panic c) a w) (T F : Act → Act → World → Prop)
    (H : ∀ Q' : Exit → Act → World → Prop, (∀ c a d v w, Q' (.panic c) (Act.put a d v) w → Q' (.panic c) a w) → (∀ a' w', T a a' w' → Q' .normal a' w') → (∀ a' w', F a a' w' → Q' .normal a' w') → C.wp P Q' a w)
    (hT : ∀ a' w', T a a' w' → Q .normal a' w') (hF : ∀ a' w', F a a' w' → Q .normal a' w') : C.wp P Q a w := H Q hQ hT hF
def out7 (a : Act) (r : Bool) (a' : Act) : Prop := ∃ v29 v30 v31 v32 v33 v34 v35 v36 v37 v38 v39 v40 v41 v42 v43 v44 v45 v46 v47 v48 v49 v50 v51 v52 v53 v54 v55 v56 v57 v58 : Value, a' = ⟨(a.tmps.toList.take 29 ++ ([v29, v30, v31, v32, v33, v34, v35, v36, v37, v38, v39, v40, v41, v42, v43, v44, v45, v46, v47, v48, v49, v50, v51, v52, v53, v54, v55, v56, v57, v58, .bool r] ++ a.tmps.toList.drop 60)).toArray, a.defers⟩
def out13 (a : Act) (r : Bool) (a' : Act) : Prop := ∃ v72 v73 v74 v75 v76 v77 v78 v79 v80 v81 v82 v83 v84 v85 v86 v87 v88 v89 v90 v91 v92 v93 v94 v95 v96 : Value, a' = ⟨(a.tmps.toList.take 72 ++ ([v72, v73, v74, v75, v76, v77, v78, v79, v80, v81, v82, v83, v84, v85, v86, v87, v88, v89, v90, v91, v92, v93, v94, v95, v96, .bool r] ++ a.tmps.toList.drop 98)).toArray, a.defers⟩

attribute [local irreducible] wpPlan
set_option maxRecDepth 100000 in
set_option maxHeartbeats 4000000 in
theorem rright_any (pv pb : Option Addr) (cv cb : Nat) (V : List VipD) (B : List BackD) (w : World) (hlv : V.length ≤ 100) (hlb : B.length ≤ 100) (hcv : V.length ≤ cv) (hcb : B.length ≤ cb) (hV : RowsAt w vipV 5 pv V) (hB : RowsAt w backV 6 pb B) (wV : ∀ v ∈ V, vipW v) (wB : ∀ b ∈ B, backW b) :
    Calls Tryz.prog 48 #[.agg #[.slice pv V.length cv, .slice pb B.length cb]] w (AnsB w (farmMay V B)) := by
  go_enter Tryz.func48, Tryz.ntmps48
  go_wp2
  · go_ret
    refine AnsB.mk _ rfl ?_ (below_alloc_first _ _)
    go_light
    simp [farmMay]; omega
  · go_loopw [3, 4] (fun i _ wr => ∃ k : Nat, k ≤ V.length ∧ i = .int .i64 k ∧ Since (w.alloc (.cells #[.slice pv V.length cv, .slice pb B.length cb] 45)) wr ∧ vipsTo V k) (fun i _ => fun _ => V.length - (intOf i).toNat)
    case atStart => exact ⟨0, Nat.zero_le _, rfl, Since.refl _, fun i v h => by omega⟩
    case round =>
      obtain ⟨k0, hk, rfl, hb, hok⟩ := hrel
      have hbw : Since w wr := (Since.first w _).trans hb
      have f0 : wr.cell? ⟨w.heap.size, 0, none⟩ = some (.slice pv V.length cv) := (hb.below.cell (by simp)).trans (by simp)
      have f1 : wr.cell? ⟨w.heap.size, 1, none⟩ = some (.slice pb B.length cb) := (hb.below.cell (by simp)).trans (by simp)
      by_cases hkl : k0 < V.length
      · have hx : V[k0]? = some V[k0] := List.getElem?_eq_getElem hkl
        obtain ⟨b, o, rfl, h0, h1, h2, h3, h4⟩ := vip_cells (hV.below hbw.below) hx
        have hxw : vipW V[k0] := wV _ (List.getElem_mem hkl)
        generalize V[k0] = x at *
        have hlt : w.heap.size < wr.heap.size := by have := hb.below.size; simp at this; omega
        have hw16 := hb.alloc (.cells #[.int .i64 x.1, .int .u32 x.2.1, .int .u16 x.2.2.1, .int .u8 x.2.2.2.1, .int .i64 x.2.2.2.2] 79)
        have hw6 : Since w (wr.alloc (.cells #[.int .i64 x.1, .int .u32 x.2.1, .int .u16 x.2.2.1, .int .u8 x.2.2.2.1, .int .i64 x.2.2.2.2] 79)) := hbw.alloc _
        have hrowD := fun (w' : World) (h : Since (wr.alloc (.cells #[.int .i64 x.1, .int .u32 x.2.1, .int .u16 x.2.2.1, .int .u8 x.2.2.2.1, .int .i64 x.2.2.2.2] 79)) w') => hV.below (hw6.trans h).below
        have fa : ∀ (i : Nat) (u : Value), wr.cell? ⟨w.heap.size, i, none⟩ = some u → ∀ w', Since (wr.alloc (.cells #[.int .i64 x.1, .int .u32 x.2.1, .int .u16 x.2.2.1, .int .u8 x.2.2.2.1, .int .i64 x.2.2.2.2] 79)) w' → w'.cell? ⟨w.heap.size, i, none⟩ = some u := fun i u hu w' h =>
          (h.below.cell (by simp; omega)).trans ((World.cell?_alloc_lt wr _ _ (by simpa using hlt)).trans hu)
        have D0 := fa 0 _ f0
        have D1 := fa 1 _ f1
        have G0 : ∀ w', Since (wr.alloc (.cells #[.int .i64 x.1, .int .u32 x.2.1, .int .u16 x.2.2.1, .int .u8 x.2.2.2.1, .int .i64 x.2.2.2.2] 79)) w' → w'.cell? ⟨wr.heap.size, 0, none⟩ = some (.int .i64 x.1) := fun w' h => (h.below.cell (by simp)).trans (by simp)
        have G1 : ∀ w', Since (wr.alloc (.cells #[.int .i64 x.1, .int .u32 x.2.1, .int .u16 x.2.2.1, .int .u8 x.2.2.2.1, .int .i64 x.2.2.2.2] 79)) w' → w'.cell? ⟨wr.heap.size, 1, none⟩ = some (.int .u32 x.2.1) := fun w' h => (h.below.cell (by simp)).trans (by simp)
        have G2 : ∀ w', Since (wr.alloc (.cells #[.int .i64 x.1, .int .u32 x.2.1, .int .u16 x.2.2.1, .int .u8 x.2.2.2.1, .int .i64 x.2.2.2.2] 79)) w' → w'.cell? ⟨wr.heap.size, 2, none⟩ = some (.int .u16 x.2.2.1) := fun w' h => (h.below.cell (by simp)).trans (by simp)
        have G3 : ∀ w', Since (wr.alloc (.cells #[.int .i64 x.1, .int .u32 x.2.1, .int .u16 x.2.2.1, .int .u8 x.2.2.2.1, .int .i64 x.2.2.2.2] 79)) w' → w'.cell? ⟨wr.heap.size, 3, none⟩ = some (.int .u8 x.2.2.2.1) := fun w' h => (h.below.cell (by simp)).trans (by simp)
        have G4 : ∀ w', Since (wr.alloc (.cells #[.int .i64 x.1, .int .u32 x.2.1, .int .u16 x.2.2.1, .int .u8 x.2.2.2.1, .int .i64 x.2.2.2.2] 79)) w' → w'.cell? ⟨wr.heap.size, 4, none⟩ = some (.int .i64 x.2.2.2.2) := fun w' h => (h.below.cell (by simp)).trans (by simp)
        have hs6 : Since (wr.alloc (.cells #[.int .i64 x.1, .int .u32 x.2.1, .int .u16 x.2.2.1, .int .u8 x.2.2.2.1, .int .i64 x.2.2.2.2] 79)) (wr.alloc (.cells #[.int .i64 x.1, .int .u32 x.2.1, .int .u16 x.2.2.1, .int .u8 x.2.2.2.1, .int .i64 x.2.2.2.2] 79)) := Since.refl _
        clear fa
        rcases k0 with _ | k
        · simp only [Nat.zero_mul, Nat.add_zero] at h0 h1 h2 h3 h4
          go_wp2_with fail
          refine region_two (by intro c a d v w h; cases d <;> exact h) (fun a a' w' => out7 a true a' ∧ Since (wr.alloc (.cells #[.int .i64 x.1, .int .u32 x.2.1, .int .u16 x.2.2.1, .int .u8 x.2.2.2.1, .int .i64 x.2.2.2.2] 79)) w' ∧ ¬ farmMay V B) (fun a a' w' => out7 a false a' ∧ Since (wr.alloc (.cells #[.int .i64 x.1, .int .u32 x.2.1, .int .u16 x.2.2.1, .int .u8 x.2.2.2.1, .int .i64 x.2.2.2.2] 79)) w' ∧ (vipMay x ∧ (∀ y, 0 < 0 → V[0 - 1]? = some y → y.1 < x.1) ∧ firstAt (fun u : VipD => u.2.1 = x.2.1 ∧ u.2.2.1 = x.2.2.1 ∧ u.2.2.2.1 = x.2.2.2.1) V ((0 : Nat) : Int))) ?_ ?_ ?_
          · intro Q hQ hT hF
            go_light
            refine wp_region_plan (Since (wr.alloc (.cells #[.int .i64 x.1, .int .u32 x.2.1, .int .u16 x.2.2.1, .int .u8 x.2.2.2.1, .int .i64 x.2.2.2.2] 79))) [(0, false), (1, true), (2, false), (3, false), (4, false), (5, false), (6, false), (7, false), (8, false), (9, false), (10, false), (11, false), (12, false), (13, false), (14, false), (15, false), (16, false), (17, false), (18, false), (19, false), (20, false), (21, false), (22, false), (23, false), (24, false), (25, false), (26, false), (28, false), (27, true), (29, false), (30, false)] (by kernel_rfl) rright7_sel rright7_ok hQ (Since.refl _).drew ?_
            refine wpPlan_pure (by simp only [List.getElem?_toArray, List.getElem?_cons_succ, List.getElem?_cons_zero]; rfl) ?_ ?_ ?_ ?_
            focus exact wanted_none rfl
            rotate_left
            focus (intro wq hq; go_simp; first | done | with_reducible rfl)
            (simp only [Act.put, List.setIfInBounds_toArray]); (try simp only [List.set_cons_succ]); (try simp only [List.set_cons_zero])
            refine wpPlan_solo (by simp only [List.getElem?_toArray, List.getElem?_cons_succ, List.getElem?_cons_zero]; rfl) ?_ (fun K hK => ?_)
            focus exact wanted_none rfl
            go_simp
            go_at_call 72
            refine (goodVip_any x hxw _).mono ?_
            rintro _ w1 ⟨r, rfl, hr, hb1⟩
            refine hK.out _ _ ?_ ?_
            focus (repeat (first | with_reducible assumption | refine Since.alloc ?_ _ | refine Since.drew ?_ | refine Since.next ?_ (by with_reducible assumption)))
            clear hK K
            try (simp only [Act.put, List.setIfInBounds_toArray]); (try simp only [List.set_cons_succ]); (try simp only [List.set_cons_zero])
            cases e1 : r
            case false =>
              try simp only [e1]
              refine wpPlan_pure (by simp only [List.getElem?_toArray, List.getElem?_cons_succ, List.getElem?_cons_zero]; rfl) ?_ ?_ ?_ ?_
              focus exact wanted_none rfl
              rotate_left
              focus (intro wq hq; go_simp; first | done | with_reducible rfl)
              (simp only [Act.put, List.setIfInBounds_toArray]); (try simp only [List.set_cons_succ]); (try simp only [List.set_cons_zero])
              refine wpPlan_pure (by simp only [List.getElem?_toArray, List.getElem?_cons_succ, List.getElem?_cons_zero]; rfl) ?_ ?_ ?_ ?_
              focus exact wanted_none rfl
              rotate_left
              focus (intro wq hq; go_simp; first | done | with_reducible rfl)
              (simp only [Act.put, List.setIfInBounds_toArray]); (try simp only [List.set_cons_succ]); (try simp only [List.set_cons_zero])
              refine wpPlan_skip (by simp only [List.getElem?_toArray, List.getElem?_cons_succ, List.getElem?_cons_zero]; rfl) ?_ ?_
              focus exact unwanted rfl rfl rfl
              (simp only [Act.put, List.setIfInBounds_toArray]); (try simp only [List.set_cons_succ]); (try simp only [List.set_cons_zero])
              refine wpPlan_skip (by simp only [List.getElem?_toArray, List.getElem?_cons_succ, List.getElem?_cons_zero]; rfl) ?_ ?_
              focus exact unwanted rfl rfl rfl
              (simp only [Act.put, List.setIfInBounds_toArray]); (try simp only [List.set_cons_succ]); (try simp only [List.set_cons_zero])
              refine wpPlan_skip (by simp only [List.getElem?_toArray, List.getElem?_cons_succ, List.getElem?_cons_zero]; rfl) ?_ ?_
              focus exact unwanted rfl rfl rfl
              (simp only [Act.put, List.setIfInBounds_toArray]); (try simp only [List.set_cons_succ]); (try simp only [List.set_cons_zero])
              refine wpPlan_skip (by simp only [List.getElem?_toArray, List.getElem?_cons_succ, List.getElem?_cons_zero]; rfl) ?_ ?_
              focus exact unwanted_none rfl rfl
              (simp only [Act.put, List.setIfInBounds_toArray]); (try simp only [List.set_cons_succ]); (try simp only [List.set_cons_zero])
              refine wpPlan_skip (by simp only [List.getElem?_toArray, List.getElem?_cons_succ, List.getElem?_cons_zero]; rfl) ?_ ?_
              focus exact unwanted_none rfl rfl
              (simp only [Act.put, List.setIfInBounds_toArray]); (try simp only [List.set_cons_succ]); (try simp only [List.set_cons_zero])
              refine wpPlan_skip (by simp only [List.getElem?_toArray, List.getElem?_cons_succ, List.getElem?_cons_zero]; rfl) ?_ ?_
              focus exact unwanted_none rfl rfl
              (simp only [Act.put, List.setIfInBounds_toArray]); (try simp only [List.set_cons_succ]); (try simp only [List.set_cons_zero])
              refine wpPlan_skip (by simp only [List.getElem?_toArray, List.getElem?_cons_succ, List.getElem?_cons_zero]; rfl) ?_ ?_
              focus exact unwanted_none rfl rfl
              (simp only [Act.put, List.setIfInBounds_toArray]); (try simp only [List.set_cons_succ]); (try simp only [List.set_cons_zero])
              refine wpPlan_skip (by simp only [List.getElem?_toArray, List.getElem?_cons_succ, List.getElem?_cons_zero]; rfl) ?_ ?_
              focus exact unwanted_none rfl rfl
              (simp only [Act.put, List.setIfInBounds_toArray]); (try simp only [List.set_cons_succ]); (try simp only [List.set_cons_zero])
              refine wpPlan_skip (by simp only [List.getElem?_toArray, List.getElem?_cons_succ, List.getElem?_cons_zero]; rfl) ?_ ?_
              focus exact unwanted_none rfl rfl
              (simp only [Act.put, List.setIfInBounds_toArray]); (try simp only [List.set_cons_succ]); (try simp only [List.set_cons_zero])
              refine wpPlan_skip (by simp only [List.getElem?_toArray, List.getElem?_cons_succ, List.getElem?_cons_zero]; rfl) ?_ ?_
              focus exact unwanted_none rfl rfl
              (simp only [Act.put, List.setIfInBounds_toArray]); (try simp only [List.set_cons_succ]); (try simp only [List.set_cons_zero])
              refine wpPlan_skip (by simp only [List.getElem?_toArray, List.getElem?_cons_succ, List.getElem?_cons_zero]; rfl) ?_ ?_
              focus exact unwanted_none rfl rfl
              (simp only [Act.put, List.setIfInBounds_toArray]); (try simp only [List.set_cons_succ]); (try simp only [List.set_cons_zero])
              refine wpPlan_skip (by simp only [List.getElem?_toArray, List.getElem?_cons_succ, List.getElem?_cons_zero]; rfl) ?_ ?_
              focus exact unwanted_none rfl rfl
              (simp only [Act.put, List.setIfInBounds_toArray]); (try simp only [List.set_cons_succ]); (try simp only [List.set_cons_zero])
              refine wpPlan_skip (by simp only [List.getElem?_toArray, List.getElem?_cons_succ, List.getElem?_cons_zero]; rfl) ?_ ?_
              focus exact unwanted_none rfl rfl
              (simp only [Act.put, List.setIfInBounds_toArray]); (try simp only [List.set_cons_succ]); (try simp only [List.set_cons_zero])
              refine wpPlan_skip (by simp only [List.getElem?_toArray, List.getElem?_cons_succ, List.getElem?_cons_zero]; rfl) ?_ ?_
              focus exact unwanted rfl rfl rfl
              (simp only [Act.put, List.setIfInBounds_toArray]); (try simp only [List.set_cons_succ]); (try simp only [List.set_cons_zero])
              refine wpPlan_pure (by simp only [List.getElem?_toArray, List.getElem?_cons_succ, List.getElem?_cons_zero]; rfl) ?_ ?_ ?_ ?_
              focus exact wanted_none rfl
              rotate_left
              focus (intro wq hq; go_simp; first | done | with_reducible rfl)
              (simp only [Act.put, List.setIfInBounds_toArray]); (try simp only [List.set_cons_succ]); (try simp only [List.set_cons_zero])
              refine wpPlan_pure (by simp only [List.getElem?_toArray, List.getElem?_cons_succ, List.getElem?_cons_zero]; rfl) ?_ ?_ ?_ ?_
              focus exact wanted_none rfl
              rotate_left
              focus (intro wq hq; go_simp; first | done | with_reducible rfl)
              (simp only [Act.put, List.setIfInBounds_toArray]); (try simp only [List.set_cons_succ]); (try simp only [List.set_cons_zero])
              refine wpPlan_skip (by simp only [List.getElem?_toArray, List.getElem?_cons_succ, List.getElem?_cons_zero]; rfl) ?_ ?_
              focus exact unwanted rfl rfl rfl
              (simp only [Act.put, List.setIfInBounds_toArray]); (try simp only [List.set_cons_succ]); (try simp only [List.set_cons_zero])
              refine wpPlan_skip (by simp only [List.getElem?_toArray, List.getElem?_cons_succ, List.getElem?_cons_zero]; rfl) ?_ ?_
              focus exact unwanted rfl rfl rfl
              (simp only [Act.put, List.setIfInBounds_toArray]); (try simp only [List.set_cons_succ]); (try simp only [List.set_cons_zero])
              refine wpPlan_skip (by simp only [List.getElem?_toArray, List.getElem?_cons_succ, List.getElem?_cons_zero]; rfl) ?_ ?_
              focus exact unwanted rfl rfl rfl
              (simp only [Act.put, List.setIfInBounds_toArray]); (try simp only [List.set_cons_succ]); (try simp only [List.set_cons_zero])
              refine wpPlan_skip (by simp only [List.getElem?_toArray, List.getElem?_cons_succ, List.getElem?_cons_zero]; rfl) ?_ ?_
              focus exact unwanted rfl rfl rfl
              (simp only [Act.put, List.setIfInBounds_toArray]); (try simp only [List.set_cons_succ]); (try simp only [List.set_cons_zero])
              refine wpPlan_skip (by simp only [List.getElem?_toArray, List.getElem?_cons_succ, List.getElem?_cons_zero]; rfl) ?_ ?_
              focus exact unwanted rfl rfl rfl
              (simp only [Act.put, List.setIfInBounds_toArray]); (try simp only [List.set_cons_succ]); (try simp only [List.set_cons_zero])
              refine wpPlan_skip (by simp only [List.getElem?_toArray, List.getElem?_cons_succ, List.getElem?_cons_zero]; rfl) ?_ ?_
              focus exact unwanted rfl rfl rfl
              (simp only [Act.put, List.setIfInBounds_toArray]); (try simp only [List.set_cons_succ]); (try simp only [List.set_cons_zero])
              refine wpPlan_skip (by simp only [List.getElem?_toArray, List.getElem?_cons_succ, List.getElem?_cons_zero]; rfl) ?_ ?_
              focus exact unwanted rfl rfl rfl
              (simp only [Act.put, List.setIfInBounds_toArray]); (try simp only [List.set_cons_succ]); (try simp only [List.set_cons_zero])
              refine wpPlan_skip (by simp only [List.getElem?_toArray, List.getElem?_cons_succ, List.getElem?_cons_zero]; rfl) ?_ ?_
              focus exact unwanted rfl rfl rfl
              (simp only [Act.put, List.setIfInBounds_toArray]); (try simp only [List.set_cons_succ]); (try simp only [List.set_cons_zero])
              refine wpPlan_skip (by simp only [List.getElem?_toArray, List.getElem?_cons_succ, List.getElem?_cons_zero]; rfl) ?_ ?_
              focus exact unwanted rfl rfl rfl
              (simp only [Act.put, List.setIfInBounds_toArray]); (try simp only [List.set_cons_succ]); (try simp only [List.set_cons_zero])
              refine wpPlan_skip (by simp only [List.getElem?_toArray, List.getElem?_cons_succ, List.getElem?_cons_zero]; rfl) ?_ ?_
              focus exact unwanted rfl rfl rfl
              (simp only [Act.put, List.setIfInBounds_toArray]); (try simp only [List.set_cons_succ]); (try simp only [List.set_cons_zero])
              refine wpPlan_pure (by simp only [List.getElem?_toArray, List.getElem?_cons_succ, List.getElem?_cons_zero]; rfl) ?_ ?_ ?_ ?_
              focus exact wanted_none rfl
              rotate_left
              focus (intro wq hq; go_simp; first | done | with_reducible rfl)
              (simp only [Act.put, List.setIfInBounds_toArray]); (try simp only [List.set_cons_succ]); (try simp only [List.set_cons_zero])
              refine wpPlan_nil ?_
              exact hT _ _ ⟨⟨_, _, _, _, _, _, _, _, _, _, _, _, _, _, _, _, _, _, _, _, _, _, _, _, _, _, _, _, _, _, rfl⟩, (by (repeat (first | with_reducible assumption | refine Since.alloc ?_ _ | refine Since.drew ?_ | refine Since.next ?_ (by with_reducible assumption)))), (not_may_vip (B := B) hx (fun h => by have h9 := hr.2 h; rw [e1] at h9; cases h9))⟩
            case true =>
              try simp only [e1]
              refine wpPlan_pure (by simp only [List.getElem?_toArray, List.getElem?_cons_succ, List.getElem?_cons_zero]; rfl) ?_ ?_ ?_ ?_
              focus exact wanted_none rfl
              rotate_left
              focus (intro wq hq; go_simp; first | done | with_reducible rfl)
              (simp only [Act.put, List.setIfInBounds_toArray]); (try simp only [List.set_cons_succ]); (try simp only [List.set_cons_zero])
              refine wpPlan_pure (by simp only [List.getElem?_toArray, List.getElem?_cons_succ, List.getElem?_cons_zero]; rfl) ?_ ?_ ?_ ?_
              focus exact wanted_none rfl
              rotate_left
              focus (intro wq hq; go_simp; first | done | with_reducible rfl)
              (simp only [Act.put, List.setIfInBounds_toArray]); (try simp only [List.set_cons_succ]); (try simp only [List.set_cons_zero])
              refine wpPlan_pure (by simp only [List.getElem?_toArray, List.getElem?_cons_succ, List.getElem?_cons_zero]; rfl) ?_ ?_ ?_ ?_
              focus exact wanted_yes rfl rfl
              rotate_left
              focus (intro wq hq; go_simp; first | done | with_reducible rfl)
              (simp only [Act.put, List.setIfInBounds_toArray]); (try simp only [List.set_cons_succ]); (try simp only [List.set_cons_zero])
              refine wpPlan_pure (by simp only [List.getElem?_toArray, List.getElem?_cons_succ, List.getElem?_cons_zero]; rfl) ?_ ?_ ?_ ?_
              focus exact wanted_yes rfl rfl
              rotate_left
              focus (intro wq hq; go_simp; first | done | with_reducible rfl)
              (simp only [Act.put, List.setIfInBounds_toArray]); (try simp only [List.set_cons_succ]); (try simp only [List.set_cons_zero])
              cases e5 : decide ((0 : Int) < 0)
              case false =>
                try simp only [e5]
                refine wpPlan_pure (by simp only [List.getElem?_toArray, List.getElem?_cons_succ, List.getElem?_cons_zero]; rfl) ?_ ?_ ?_ ?_
                focus exact wanted_yes rfl rfl
                rotate_left
                focus (intro wq hq; go_simp; first | done | with_reducible rfl)
                (simp only [Act.put, List.setIfInBounds_toArray]); (try simp only [List.set_cons_succ]); (try simp only [List.set_cons_zero])
                refine wpPlan_skip (by simp only [List.getElem?_toArray, List.getElem?_cons_succ, List.getElem?_cons_zero]; rfl) ?_ ?_
                focus exact unwanted rfl rfl rfl
                (simp only [Act.put, List.setIfInBounds_toArray]); (try simp only [List.set_cons_succ]); (try simp only [List.set_cons_zero])
                refine wpPlan_skip (by simp only [List.getElem?_toArray, List.getElem?_cons_succ, List.getElem?_cons_zero]; rfl) ?_ ?_
                focus exact unwanted rfl rfl rfl
                (simp only [Act.put, List.setIfInBounds_toArray]); (try simp only [List.set_cons_succ]); (try simp only [List.set_cons_zero])
                refine wpPlan_skip (by simp only [List.getElem?_toArray, List.getElem?_cons_succ, List.getElem?_cons_zero]; rfl) ?_ ?_
                focus exact unwanted rfl rfl rfl
                (simp only [Act.put, List.setIfInBounds_toArray]); (try simp only [List.set_cons_succ]); (try simp only [List.set_cons_zero])
                refine wpPlan_skip (by simp only [List.getElem?_toArray, List.getElem?_cons_succ, List.getElem?_cons_zero]; rfl) ?_ ?_
                focus exact unwanted rfl rfl rfl
                (simp only [Act.put, List.setIfInBounds_toArray]); (try simp only [List.set_cons_succ]); (try simp only [List.set_cons_zero])
                refine wpPlan_skip (by simp only [List.getElem?_toArray, List.getElem?_cons_succ, List.getElem?_cons_zero]; rfl) ?_ ?_
                focus exact unwanted rfl rfl rfl
                (simp only [Act.put, List.setIfInBounds_toArray]); (try simp only [List.set_cons_succ]); (try simp only [List.set_cons_zero])
                refine wpPlan_skip (by simp only [List.getElem?_toArray, List.getElem?_cons_succ, List.getElem?_cons_zero]; rfl) ?_ ?_
                focus exact unwanted rfl rfl rfl
                (simp only [Act.put, List.setIfInBounds_toArray]); (try simp only [List.set_cons_succ]); (try simp only [List.set_cons_zero])
                refine wpPlan_skip (by simp only [List.getElem?_toArray, List.getElem?_cons_succ, List.getElem?_cons_zero]; rfl) ?_ ?_
                focus exact unwanted rfl rfl rfl
                (simp only [Act.put, List.setIfInBounds_toArray]); (try simp only [List.set_cons_succ]); (try simp only [List.set_cons_zero])
                refine wpPlan_skip (by simp only [List.getElem?_toArray, List.getElem?_cons_succ, List.getElem?_cons_zero]; rfl) ?_ ?_
                focus exact unwanted rfl rfl rfl
                (simp only [Act.put, List.setIfInBounds_toArray]); (try simp only [List.set_cons_succ]); (try simp only [List.set_cons_zero])
                refine wpPlan_skip (by simp only [List.getElem?_toArray, List.getElem?_cons_succ, List.getElem?_cons_zero]; rfl) ?_ ?_
                focus exact unwanted rfl rfl rfl
                (simp only [Act.put, List.setIfInBounds_toArray]); (try simp only [List.set_cons_succ]); (try simp only [List.set_cons_zero])
                refine wpPlan_skip (by simp only [List.getElem?_toArray, List.getElem?_cons_succ, List.getElem?_cons_zero]; rfl) ?_ ?_
                focus exact unwanted rfl rfl rfl
                (simp only [Act.put, List.setIfInBounds_toArray]); (try simp only [List.set_cons_succ]); (try simp only [List.set_cons_zero])
                refine wpPlan_pure (by simp only [List.getElem?_toArray, List.getElem?_cons_succ, List.getElem?_cons_zero]; rfl) ?_ ?_ ?_ ?_
                focus exact wanted_yes rfl rfl
                rotate_left
                focus (intro wq hq; go_simp; first | done | with_reducible rfl)
                (simp only [Act.put, List.setIfInBounds_toArray]); (try simp only [List.set_cons_succ]); (try simp only [List.set_cons_zero])
                refine wpPlan_pure (by simp only [List.getElem?_toArray, List.getElem?_cons_succ, List.getElem?_cons_zero]; rfl) ?_ ?_ ?_ ?_
                focus exact wanted_none rfl
                rotate_left
                focus (intro wq hq; go_simp; first | done | with_reducible rfl)
                (simp only [Act.put, List.setIfInBounds_toArray]); (try simp only [List.set_cons_succ]); (try simp only [List.set_cons_zero])
                refine wpPlan_pure (by simp only [List.getElem?_toArray, List.getElem?_cons_succ, List.getElem?_cons_zero]; rfl) ?_ ?_ ?_ ?_
                focus exact wanted_none rfl
                rotate_left
                focus (intro wq hq; go_simp; first | done | with_reducible rfl)
                (simp only [Act.put, List.setIfInBounds_toArray]); (try simp only [List.set_cons_succ]); (try simp only [List.set_cons_zero])
                refine wpPlan_pure (by simp only [List.getElem?_toArray, List.getElem?_cons_succ, List.getElem?_cons_zero]; rfl) ?_ ?_ ?_ ?_
                focus exact wanted_yes rfl rfl
                rotate_left
                focus (intro wq hq; go_simp; first | done | with_reducible rfl)
                (simp only [Act.put, List.setIfInBounds_toArray]); (try simp only [List.set_cons_succ]); (try simp only [List.set_cons_zero])
                refine wpPlan_pure (by simp only [List.getElem?_toArray, List.getElem?_cons_succ, List.getElem?_cons_zero]; rfl) ?_ ?_ ?_ ?_
                focus exact wanted_yes rfl rfl
                rotate_left
                focus (intro wq hq; go_simp; first | done | with_reducible rfl)
                (simp only [Act.put, List.setIfInBounds_toArray]); (try simp only [List.set_cons_succ]); (try simp only [List.set_cons_zero])
                refine wpPlan_pure (by simp only [List.getElem?_toArray, List.getElem?_cons_succ, List.getElem?_cons_zero]; rfl) ?_ ?_ ?_ ?_
                focus exact wanted_yes rfl rfl
                rotate_left
                focus (intro wq hq; go_simp; first | done | with_reducible rfl)
                (simp only [Act.put, List.setIfInBounds_toArray]); (try simp only [List.set_cons_succ]); (try simp only [List.set_cons_zero])
                refine wpPlan_pure (by simp only [List.getElem?_toArray, List.getElem?_cons_succ, List.getElem?_cons_zero]; rfl) ?_ ?_ ?_ ?_
                focus exact wanted_yes rfl rfl
                rotate_left
                focus (intro wq hq; go_simp; first | done | with_reducible rfl)
                (simp only [Act.put, List.setIfInBounds_toArray]); (try simp only [List.set_cons_succ]); (try simp only [List.set_cons_zero])
                refine wpPlan_pure (by simp only [List.getElem?_toArray, List.getElem?_cons_succ, List.getElem?_cons_zero]; rfl) ?_ ?_ ?_ ?_
                focus exact wanted_yes rfl rfl
                rotate_left
                focus (intro wq hq; go_simp; first | done | with_reducible rfl)
                (simp only [Act.put, List.setIfInBounds_toArray]); (try simp only [List.set_cons_succ]); (try simp only [List.set_cons_zero])
                refine wpPlan_pure (by simp only [List.getElem?_toArray, List.getElem?_cons_succ, List.getElem?_cons_zero]; rfl) ?_ ?_ ?_ ?_
                focus exact wanted_yes rfl rfl
                rotate_left
                focus (intro wq hq; go_simp; first | done | with_reducible rfl)
                (simp only [Act.put, List.setIfInBounds_toArray]); (try simp only [List.set_cons_succ]); (try simp only [List.set_cons_zero])
                refine wpPlan_pure (by simp only [List.getElem?_toArray, List.getElem?_cons_succ, List.getElem?_cons_zero]; rfl) ?_ ?_ ?_ ?_
                focus exact wanted_yes rfl rfl
                rotate_left
                focus (intro wq hq; go_simp; first | done | with_reducible rfl)
                (simp only [Act.put, List.setIfInBounds_toArray]); (try simp only [List.set_cons_succ]); (try simp only [List.set_cons_zero])
                refine wpPlan_pure (by simp only [List.getElem?_toArray, List.getElem?_cons_succ, List.getElem?_cons_zero]; rfl) ?_ ?_ ?_ ?_
                focus exact wanted_yes rfl rfl
                rotate_left
                focus (intro wq hq; go_simp; first | done | with_reducible rfl)
                (simp only [Act.put, List.setIfInBounds_toArray]); (try simp only [List.set_cons_succ]); (try simp only [List.set_cons_zero])
                refine wpPlan_solo (by simp only [List.getElem?_toArray, List.getElem?_cons_succ, List.getElem?_cons_zero]; rfl) ?_ (fun K hK => ?_)
                focus exact wanted_yes rfl rfl
                go_simp
                go_at_call 73
                refine (where_any _ _ _ _ _ _ _ _ hlv (hrowD _ (by (repeat (first | with_reducible assumption | refine Since.alloc ?_ _ | refine Since.drew ?_ | refine Since.next ?_ (by with_reducible assumption)))))).mono ?_
                rintro _ w2 ⟨i2, rfl, hi2, hb2⟩
                refine hK.out _ _ ?_ ?_
                focus (repeat (first | with_reducible assumption | refine Since.alloc ?_ _ | refine Since.drew ?_ | refine Since.next ?_ (by with_reducible assumption)))
                clear hK K
                try (simp only [Act.put, List.setIfInBounds_toArray]); (try simp only [List.set_cons_succ]); (try simp only [List.set_cons_zero])
                refine wpPlan_pure (by simp only [List.getElem?_toArray, List.getElem?_cons_succ, List.getElem?_cons_zero]; rfl) ?_ ?_ ?_ ?_
                focus exact wanted_yes rfl rfl
                rotate_left
                focus (intro wq hq; go_simp; first | done | with_reducible rfl)
                (simp only [Act.put, List.setIfInBounds_toArray]); (try simp only [List.set_cons_succ]); (try simp only [List.set_cons_zero])
                refine wpPlan_pure (by simp only [List.getElem?_toArray, List.getElem?_cons_succ, List.getElem?_cons_zero]; rfl) ?_ ?_ ?_ ?_
                focus exact wanted_none rfl
                rotate_left
                focus (intro wq hq; go_simp; first | done | with_reducible rfl)
                (simp only [Act.put, List.setIfInBounds_toArray]); (try simp only [List.set_cons_succ]); (try simp only [List.set_cons_zero])
                refine wpPlan_nil ?_
                by_cases heq : i2 = ((0 : Nat) : Int)
                · have hne : (i2 != (0 : Int)) = false := by simp [heq]
                  (try simp only [hne])
                  exact hF _ _ ⟨⟨_, _, _, _, _, _, _, _, _, _, _, _, _, _, _, _, _, _, _, _, _, _, _, _, _, _, _, _, _, _, rfl⟩, (by (repeat (first | with_reducible assumption | refine Since.alloc ?_ _ | refine Since.drew ?_ | refine Since.next ?_ (by with_reducible assumption)))), hr.1 e1, (fun y h0 => by omega), heq ▸ hi2⟩
                · have hne : (i2 != (0 : Int)) = true := by simpa using heq
                  (try simp only [hne])
                  exact hT _ _ ⟨⟨_, _, _, _, _, _, _, _, _, _, _, _, _, _, _, _, _, _, _, _, _, _, _, _, _, _, _, _, _, _, rfl⟩, (by (repeat (first | with_reducible assumption | refine Since.alloc ?_ _ | refine Since.drew ?_ | refine Since.next ?_ (by with_reducible assumption)))), (not_may_where (B := B) hx hi2 heq)⟩
              case true =>
                (exfalso; revert e5; simp)
          · rintro a' w' ⟨⟨v29, v30, v31, v32, v33, v34, v35, v36, v37, v38, v39, v40, v41, v42, v43, v44, v45, v46, v47, v48, v49, v50, v51, v52, v53, v54, v55, v56, v57, v58, rfl⟩, hS, hbad⟩
            simp only [List.take_succ_cons, List.take_zero, List.drop_succ_cons, List.drop_zero, List.drop_nil, List.cons_append, List.nil_append, List.append_nil]
            go_wp2_with fail
            go_ret
            exact AnsB.mk _ rfl (by simp [hbad]) ((Since.trans hw6 hS).below)
          · rintro a' w' ⟨⟨v29, v30, v31, v32, v33, v34, v35, v36, v37, v38, v39, v40, v41, v42, v43, v44, v45, v46, v47, v48, v49, v50, v51, v52, v53, v54, v55, v56, v57, v58, rfl⟩, hS, hgood1, hgood2, hgood3⟩
            simp only [List.take_succ_cons, List.take_zero, List.drop_succ_cons, List.drop_zero, List.drop_nil, List.cons_append, List.nil_append, List.append_nil]
            go_wp2_with fail
            exact ⟨⟨0 + 1, (by omega), (by go_num), Since.trans hw16 hS, vipsTo_step hx hgood1 hgood2 hgood3 hok⟩, (by simp only [intOf]; omega)⟩

        · have hy : V[k]? = some V[k] := List.getElem?_eq_getElem (by omega)
          obtain ⟨b2, o2, he2, y0, _⟩ := vip_cells (hV.below hw6.below) hy
          injection he2 with he2; injection he2 with e1 e2 e3; subst e1 e2
          generalize V[k] = y at *
          have Y0 : ∀ w', Since (wr.alloc (.cells #[.int .i64 x.1, .int .u32 x.2.1, .int .u16 x.2.2.1, .int .u8 x.2.2.2.1, .int .i64 x.2.2.2.2] 79)) w' → w'.cell? ⟨b, o + k * 5, none⟩ = some (.int .i64 y.1) := fun w' h => (h.below.cell (World.block_lt_of_cell? _ _ y0)).trans y0
          clear y0
          have hkw : IntKind.i64.wrap (k : Int) = (k : Int) := IntWalk.i64_in _ (by omega)
          have hkb0 : (0 : Int) ≤ (k : Int) := by omega
          have hkb1 : (k : Int) < (V.length : Int) := by omega
          go_wp2_with fail
          refine region_two (by intro c a d v w h; cases d <;> exact h) (fun a a' w' => out7 a true a' ∧ Since (wr.alloc (.cells #[.int .i64 x.1, .int .u32 x.2.1, .int .u16 x.2.2.1, .int .u8 x.2.2.2.1, .int .i64 x.2.2.2.2] 79)) w' ∧ ¬ farmMay V B) (fun a a' w' => out7 a false a' ∧ Since (wr.alloc (.cells #[.int .i64 x.1, .int .u32 x.2.1, .int .u16 x.2.2.1, .int .u8 x.2.2.2.1, .int .i64 x.2.2.2.2] 79)) w' ∧ (vipMay x ∧ (∀ y, 0 < k + 1 → V[k + 1 - 1]? = some y → y.1 < x.1) ∧ firstAt (fun u : VipD => u.2.1 = x.2.1 ∧ u.2.2.1 = x.2.2.1 ∧ u.2.2.2.1 = x.2.2.2.1) V ((k + 1 : Nat) : Int))) ?_ ?_ ?_
          · intro Q hQ hT hF
            go_light
            refine wp_region_plan (Since (wr.alloc (.cells #[.int .i64 x.1, .int .u32 x.2.1, .int .u16 x.2.2.1, .int .u8 x.2.2.2.1, .int .i64 x.2.2.2.2] 79))) [(0, false), (1, true), (2, false), (3, false), (4, false), (5, false), (6, false), (7, false), (8, false), (9, false), (10, false), (11, false), (12, false), (13, false), (14, false), (15, false), (16, false), (17, false), (18, false), (19, false), (20, false), (21, false), (22, false), (23, false), (24, false), (25, false), (26, false), (28, false), (27, true), (29, false), (30, false)] (by kernel_rfl) rright7_sel rright7_ok hQ (Since.refl _).drew ?_
            refine wpPlan_pure (by simp only [List.getElem?_toArray, List.getElem?_cons_succ, List.getElem?_cons_zero]; rfl) ?_ ?_ ?_ ?_
            focus exact wanted_none rfl
            rotate_left
            focus (intro wq hq; go_simp; first | done | with_reducible rfl)
            (simp only [Act.put, List.setIfInBounds_toArray]); (try simp only [List.set_cons_succ]); (try simp only [List.set_cons_zero])
            refine wpPlan_solo (by simp only [List.getElem?_toArray, List.getElem?_cons_succ, List.getElem?_cons_zero]; rfl) ?_ (fun K hK => ?_)
            focus exact wanted_none rfl
            go_simp
            go_at_call 72
            refine (goodVip_any x hxw _).mono ?_
            rintro _ w1 ⟨r, rfl, hr, hb1⟩
            refine hK.out _ _ ?_ ?_
            focus (repeat (first | with_reducible assumption | refine Since.alloc ?_ _ | refine Since.drew ?_ | refine Since.next ?_ (by with_reducible assumption)))
            clear hK K
            try (simp only [Act.put, List.setIfInBounds_toArray]); (try simp only [List.set_cons_succ]); (try simp only [List.set_cons_zero])
            cases e1 : r
            case false =>
              try simp only [e1]
              refine wpPlan_pure (by simp only [List.getElem?_toArray, List.getElem?_cons_succ, List.getElem?_cons_zero]; rfl) ?_ ?_ ?_ ?_
              focus exact wanted_none rfl
              rotate_left
              focus (intro wq hq; go_simp; first | done | with_reducible rfl)
              (simp only [Act.put, List.setIfInBounds_toArray]); (try simp only [List.set_cons_succ]); (try simp only [List.set_cons_zero])
              refine wpPlan_pure (by simp only [List.getElem?_toArray, List.getElem?_cons_succ, List.getElem?_cons_zero]; rfl) ?_ ?_ ?_ ?_
              focus exact wanted_none rfl
              rotate_left
              focus (intro wq hq; go_simp; first | done | with_reducible rfl)
              (simp only [Act.put, List.setIfInBounds_toArray]); (try simp only [List.set_cons_succ]); (try simp only [List.set_cons_zero])
              refine wpPlan_skip (by simp only [List.getElem?_toArray, List.getElem?_cons_succ, List.getElem?_cons_zero]; rfl) ?_ ?_
              focus exact unwanted rfl rfl rfl
              (simp only [Act.put, List.setIfInBounds_toArray]); (try simp only [List.set_cons_succ]); (try simp only [List.set_cons_zero])
              refine wpPlan_skip (by simp only [List.getElem?_toArray, List.getElem?_cons_succ, List.getElem?_cons_zero]; rfl) ?_ ?_
              focus exact unwanted rfl rfl rfl
              (simp only [Act.put, List.setIfInBounds_toArray]); (try simp only [List.set_cons_succ]); (try simp only [List.set_cons_zero])
              refine wpPlan_skip (by simp only [List.getElem?_toArray, List.getElem?_cons_succ, List.getElem?_cons_zero]; rfl) ?_ ?_
              focus exact unwanted rfl rfl rfl
              (simp only [Act.put, List.setIfInBounds_toArray]); (try simp only [List.set_cons_succ]); (try simp only [List.set_cons_zero])
              refine wpPlan_skip (by simp only [List.getElem?_toArray, List.getElem?_cons_succ, List.getElem?_cons_zero]; rfl) ?_ ?_
              focus exact unwanted_none rfl rfl
              (simp only [Act.put, List.setIfInBounds_toArray]); (try simp only [List.set_cons_succ]); (try simp only [List.set_cons_zero])
              refine wpPlan_skip (by simp only [List.getElem?_toArray, List.getElem?_cons_succ, List.getElem?_cons_zero]; rfl) ?_ ?_
              focus exact unwanted_none rfl rfl
              (simp only [Act.put, List.setIfInBounds_toArray]); (try simp only [List.set_cons_succ]); (try simp only [List.set_cons_zero])
              refine wpPlan_skip (by simp only [List.getElem?_toArray, List.getElem?_cons_succ, List.getElem?_cons_zero]; rfl) ?_ ?_
              focus exact unwanted_none rfl rfl
              (simp only [Act.put, List.setIfInBounds_toArray]); (try simp only [List.set_cons_succ]); (try simp only [List.set_cons_zero])
              refine wpPlan_skip (by simp only [List.getElem?_toArray, List.getElem?_cons_succ, List.getElem?_cons_zero]; rfl) ?_ ?_
              focus exact unwanted_none rfl rfl
              (simp only [Act.put, List.setIfInBounds_toArray]); (try simp only [List.set_cons_succ]); (try simp only [List.set_cons_zero])
              refine wpPlan_skip (by simp only [List.getElem?_toArray, List.getElem?_cons_succ, List.getElem?_cons_zero]; rfl) ?_ ?_
              focus exact unwanted_none rfl rfl
              (simp only [Act.put, List.setIfInBounds_toArray]); (try simp only [List.set_cons_succ]); (try simp only [List.set_cons_zero])
              refine wpPlan_skip (by simp only [List.getElem?_toArray, List.getElem?_cons_succ, List.getElem?_cons_zero]; rfl) ?_ ?_
              focus exact unwanted_none rfl rfl
              (simp only [Act.put, List.setIfInBounds_toArray]); (try simp only [List.set_cons_succ]); (try simp only [List.set_cons_zero])
              refine wpPlan_skip (by simp only [List.getElem?_toArray, List.getElem?_cons_succ, List.getElem?_cons_zero]; rfl) ?_ ?_
              focus exact unwanted_none rfl rfl
              (simp only [Act.put, List.setIfInBounds_toArray]); (try simp only [List.set_cons_succ]); (try simp only [List.set_cons_zero])
              refine wpPlan_skip (by simp only [List.getElem?_toArray, List.getElem?_cons_succ, List.getElem?_cons_zero]; rfl) ?_ ?_
              focus exact unwanted_none rfl rfl
              (simp only [Act.put, List.setIfInBounds_toArray]); (try simp only [List.set_cons_succ]); (try simp only [List.set_cons_zero])
              refine wpPlan_skip (by simp only [List.getElem?_toArray, List.getElem?_cons_succ, List.getElem?_cons_zero]; rfl) ?_ ?_
              focus exact unwanted_none rfl rfl
              (simp only [Act.put, List.setIfInBounds_toArray]); (try simp only [List.set_cons_succ]); (try simp only [List.set_cons_zero])
              refine wpPlan_skip (by simp only [List.getElem?_toArray, List.getElem?_cons_succ, List.getElem?_cons_zero]; rfl) ?_ ?_
              focus exact unwanted_none rfl rfl
              (simp only [Act.put, List.setIfInBounds_toArray]); (try simp only [List.set_cons_succ]); (try simp only [List.set_cons_zero])
              refine wpPlan_skip (by simp only [List.getElem?_toArray, List.getElem?_cons_succ, List.getElem?_cons_zero]; rfl) ?_ ?_
              focus exact unwanted rfl rfl rfl
              (simp only [Act.put, List.setIfInBounds_toArray]); (try simp only [List.set_cons_succ]); (try simp only [List.set_cons_zero])
              refine wpPlan_pure (by simp only [List.getElem?_toArray, List.getElem?_cons_succ, List.getElem?_cons_zero]; rfl) ?_ ?_ ?_ ?_
              focus exact wanted_none rfl
              rotate_left
              focus (intro wq hq; go_simp; first | done | with_reducible rfl)
              (simp only [Act.put, List.setIfInBounds_toArray]); (try simp only [List.set_cons_succ]); (try simp only [List.set_cons_zero])
              refine wpPlan_pure (by simp only [List.getElem?_toArray, List.getElem?_cons_succ, List.getElem?_cons_zero]; rfl) ?_ ?_ ?_ ?_
              focus exact wanted_none rfl
              rotate_left
              focus (intro wq hq; go_simp; first | done | with_reducible rfl)
              (simp only [Act.put, List.setIfInBounds_toArray]); (try simp only [List.set_cons_succ]); (try simp only [List.set_cons_zero])
              refine wpPlan_skip (by simp only [List.getElem?_toArray, List.getElem?_cons_succ, List.getElem?_cons_zero]; rfl) ?_ ?_
              focus exact unwanted rfl rfl rfl
              (simp only [Act.put, List.setIfInBounds_toArray]); (try simp only [List.set_cons_succ]); (try simp only [List.set_cons_zero])
              refine wpPlan_skip (by simp only [List.getElem?_toArray, List.getElem?_cons_succ, List.getElem?_cons_zero]; rfl) ?_ ?_
              focus exact unwanted rfl rfl rfl
              (simp only [Act.put, List.setIfInBounds_toArray]); (try simp only [List.set_cons_succ]); (try simp only [List.set_cons_zero])
              refine wpPlan_skip (by simp only [List.getElem?_toArray, List.getElem?_cons_succ, List.getElem?_cons_zero]; rfl) ?_ ?_
              focus exact unwanted rfl rfl rfl
              (simp only [Act.put, List.setIfInBounds_toArray]); (try simp only [List.set_cons_succ]); (try simp only [List.set_cons_zero])
              refine wpPlan_skip (by simp only [List.getElem?_toArray, List.getElem?_cons_succ, List.getElem?_cons_zero]; rfl) ?_ ?_
              focus exact unwanted rfl rfl rfl
              (simp only [Act.put, List.setIfInBounds_toArray]); (try simp only [List.set_cons_succ]); (try simp only [List.set_cons_zero])
              refine wpPlan_skip (by simp only [List.getElem?_toArray, List.getElem?_cons_succ, List.getElem?_cons_zero]; rfl) ?_ ?_
              focus exact unwanted rfl rfl rfl
              (simp only [Act.put, List.setIfInBounds_toArray]); (try simp only [List.set_cons_succ]); (try simp only [List.set_cons_zero])
              refine wpPlan_skip (by simp only [List.getElem?_toArray, List.getElem?_cons_succ, List.getElem?_cons_zero]; rfl) ?_ ?_
              focus exact unwanted rfl rfl rfl
              (simp only [Act.put, List.setIfInBounds_toArray]); (try simp only [List.set_cons_succ]); (try simp only [List.set_cons_zero])
              refine wpPlan_skip (by simp only [List.getElem?_toArray, List.getElem?_cons_succ, List.getElem?_cons_zero]; rfl) ?_ ?_
              focus exact unwanted rfl rfl rfl
              (simp only [Act.put, List.setIfInBounds_toArray]); (try simp only [List.set_cons_succ]); (try simp only [List.set_cons_zero])
              refine wpPlan_skip (by simp only [List.getElem?_toArray, List.getElem?_cons_succ, List.getElem?_cons_zero]; rfl) ?_ ?_
              focus exact unwanted rfl rfl rfl
              (simp only [Act.put, List.setIfInBounds_toArray]); (try simp only [List.set_cons_succ]); (try simp only [List.set_cons_zero])
              refine wpPlan_skip (by simp only [List.getElem?_toArray, List.getElem?_cons_succ, List.getElem?_cons_zero]; rfl) ?_ ?_
              focus exact unwanted rfl rfl rfl
              (simp only [Act.put, List.setIfInBounds_toArray]); (try simp only [List.set_cons_succ]); (try simp only [List.set_cons_zero])
              refine wpPlan_skip (by simp only [List.getElem?_toArray, List.getElem?_cons_succ, List.getElem?_cons_zero]; rfl) ?_ ?_
              focus exact unwanted rfl rfl rfl
              (simp only [Act.put, List.setIfInBounds_toArray]); (try simp only [List.set_cons_succ]); (try simp only [List.set_cons_zero])
              refine wpPlan_pure (by simp only [List.getElem?_toArray, List.getElem?_cons_succ, List.getElem?_cons_zero]; rfl) ?_ ?_ ?_ ?_
              focus exact wanted_none rfl
              rotate_left
              focus (intro wq hq; go_simp; first | done | with_reducible rfl)
              (simp only [Act.put, List.setIfInBounds_toArray]); (try simp only [List.set_cons_succ]); (try simp only [List.set_cons_zero])
              refine wpPlan_nil ?_
              exact hT _ _ ⟨⟨_, _, _, _, _, _, _, _, _, _, _, _, _, _, _, _, _, _, _, _, _, _, _, _, _, _, _, _, _, _, rfl⟩, (by (repeat (first | with_reducible assumption | refine Since.alloc ?_ _ | refine Since.drew ?_ | refine Since.next ?_ (by with_reducible assumption)))), (not_may_vip (B := B) hx (fun h => by have h9 := hr.2 h; rw [e1] at h9; cases h9))⟩
            case true =>
              try simp only [e1]
              refine wpPlan_pure (by simp only [List.getElem?_toArray, List.getElem?_cons_succ, List.getElem?_cons_zero]; rfl) ?_ ?_ ?_ ?_
              focus exact wanted_none rfl
              rotate_left
              focus (intro wq hq; go_simp; first | done | with_reducible rfl)
              (simp only [Act.put, List.setIfInBounds_toArray]); (try simp only [List.set_cons_succ]); (try simp only [List.set_cons_zero])
              refine wpPlan_pure (by simp only [List.getElem?_toArray, List.getElem?_cons_succ, List.getElem?_cons_zero]; rfl) ?_ ?_ ?_ ?_
              focus exact wanted_none rfl
              rotate_left
              focus (intro wq hq; go_simp; first | done | with_reducible rfl)
              (simp only [Act.put, List.setIfInBounds_toArray]); (try simp only [List.set_cons_succ]); (try simp only [List.set_cons_zero])
              refine wpPlan_pure (by simp only [List.getElem?_toArray, List.getElem?_cons_succ, List.getElem?_cons_zero]; rfl) ?_ ?_ ?_ ?_
              focus exact wanted_yes rfl rfl
              rotate_left
              focus (intro wq hq; go_simp; first | done | with_reducible rfl)
              (simp only [Act.put, List.setIfInBounds_toArray]); (try simp only [List.set_cons_succ]); (try simp only [List.set_cons_zero])
              refine wpPlan_pure (by simp only [List.getElem?_toArray, List.getElem?_cons_succ, List.getElem?_cons_zero]; rfl) ?_ ?_ ?_ ?_
              focus exact wanted_yes rfl rfl
              rotate_left
              focus (intro wq hq; go_simp; first | done | with_reducible rfl)
              (simp only [Act.put, List.setIfInBounds_toArray]); (try simp only [List.set_cons_succ]); (try simp only [List.set_cons_zero])
              cases e5 : decide ((0 : Int) < (k : Int) + 1)
              case false =>
                (exfalso; revert e5; first | (simp; done) | (simp; omega))
              case true =>
                try simp only [e5]
                refine wpPlan_pure (by simp only [List.getElem?_toArray, List.getElem?_cons_succ, List.getElem?_cons_zero]; rfl) ?_ ?_ ?_ ?_
                focus exact wanted_yes rfl rfl
                rotate_left
                focus (intro wq hq; go_simp; first | done | with_reducible rfl)
                (simp only [Act.put, List.setIfInBounds_toArray]); (try simp only [List.set_cons_succ]); (try simp only [List.set_cons_zero])
                refine wpPlan_pure (by simp only [List.getElem?_toArray, List.getElem?_cons_succ, List.getElem?_cons_zero]; rfl) ?_ ?_ ?_ ?_
                focus exact wanted_yes rfl rfl
                rotate_left
                focus (intro wq hq; go_simp; first | done | with_reducible rfl)
                (simp only [Act.put, List.setIfInBounds_toArray]); (try simp only [List.set_cons_succ]); (try simp only [List.set_cons_zero])
                refine wpPlan_pure (by simp only [List.getElem?_toArray, List.getElem?_cons_succ, List.getElem?_cons_zero]; rfl) ?_ ?_ ?_ ?_
                focus exact wanted_yes rfl rfl
                rotate_left
                focus (intro wq hq; go_simp; first | done | with_reducible rfl)
                (simp only [Act.put, List.setIfInBounds_toArray]); (try simp only [List.set_cons_succ]); (try simp only [List.set_cons_zero])
                refine wpPlan_pure (by simp only [List.getElem?_toArray, List.getElem?_cons_succ, List.getElem?_cons_zero]; rfl) ?_ ?_ ?_ ?_
                focus exact wanted_yes rfl rfl
                rotate_left
                focus (intro wq hq; go_simp; first | done | with_reducible rfl)
                (simp only [Act.put, List.setIfInBounds_toArray]); (try simp only [List.set_cons_succ]); (try simp only [List.set_cons_zero])
                refine wpPlan_pure (by simp only [List.getElem?_toArray, List.getElem?_cons_succ, List.getElem?_cons_zero]; rfl) ?_ ?_ ?_ ?_
                focus exact wanted_yes rfl rfl
                rotate_left
                focus (intro wq hq; go_simp; first | done | with_reducible rfl)
                (simp only [Act.put, List.setIfInBounds_toArray]); (try simp only [List.set_cons_succ]); (try simp only [List.set_cons_zero])
                refine wpPlan_pure (by simp only [List.getElem?_toArray, List.getElem?_cons_succ, List.getElem?_cons_zero]; rfl) ?_ ?_ ?_ ?_
                focus exact wanted_yes rfl rfl
                rotate_left
                focus (intro wq hq; go_simp; first | done | with_reducible rfl)
                (simp only [Act.put, List.setIfInBounds_toArray]); (try simp only [List.set_cons_succ]); (try simp only [List.set_cons_zero])
                refine wpPlan_pure (by simp only [List.getElem?_toArray, List.getElem?_cons_succ, List.getElem?_cons_zero]; rfl) ?_ ?_ ?_ ?_
                focus exact wanted_yes rfl rfl
                rotate_left
                focus (intro wq hq; go_simp; first | done | with_reducible rfl)
                (simp only [Act.put, List.setIfInBounds_toArray]); (try simp only [List.set_cons_succ]); (try simp only [List.set_cons_zero])
                refine wpPlan_pure (by simp only [List.getElem?_toArray, List.getElem?_cons_succ, List.getElem?_cons_zero]; rfl) ?_ ?_ ?_ ?_
                focus exact wanted_yes rfl rfl
                rotate_left
                focus (intro wq hq; go_simp; first | done | with_reducible rfl)
                (simp only [Act.put, List.setIfInBounds_toArray]); (try simp only [List.set_cons_succ]); (try simp only [List.set_cons_zero])
                refine wpPlan_pure (by simp only [List.getElem?_toArray, List.getElem?_cons_succ, List.getElem?_cons_zero]; rfl) ?_ ?_ ?_ ?_
                focus exact wanted_yes rfl rfl
                rotate_left
                focus (intro wq hq; go_simp; first | done | with_reducible rfl)
                (simp only [Act.put, List.setIfInBounds_toArray]); (try simp only [List.set_cons_succ]); (try simp only [List.set_cons_zero])
                refine wpPlan_pure (by simp only [List.getElem?_toArray, List.getElem?_cons_succ, List.getElem?_cons_zero]; rfl) ?_ ?_ ?_ ?_
                focus exact wanted_yes rfl rfl
                rotate_left
                focus (intro wq hq; go_simp; first | done | with_reducible rfl)
                (simp only [Act.put, List.setIfInBounds_toArray]); (try simp only [List.set_cons_succ]); (try simp only [List.set_cons_zero])
                refine wpPlan_pure (by simp only [List.getElem?_toArray, List.getElem?_cons_succ, List.getElem?_cons_zero]; rfl) ?_ ?_ ?_ ?_
                focus exact wanted_yes rfl rfl
                rotate_left
                focus (intro wq hq; go_simp; first | done | with_reducible rfl)
                (simp only [Act.put, List.setIfInBounds_toArray]); (try simp only [List.set_cons_succ]); (try simp only [List.set_cons_zero])
                cases e15 : decide (x.1 ≤ y.1)
                case false =>
                  try simp only [e15]
                  refine wpPlan_pure (by simp only [List.getElem?_toArray, List.getElem?_cons_succ, List.getElem?_cons_zero]; rfl) ?_ ?_ ?_ ?_
                  focus exact wanted_yes rfl rfl
                  rotate_left
                  focus (intro wq hq; go_simp; first | done | with_reducible rfl)
                  (simp only [Act.put, List.setIfInBounds_toArray]); (try simp only [List.set_cons_succ]); (try simp only [List.set_cons_zero])
                  refine wpPlan_pure (by simp only [List.getElem?_toArray, List.getElem?_cons_succ, List.getElem?_cons_zero]; rfl) ?_ ?_ ?_ ?_
                  focus exact wanted_none rfl
                  rotate_left
                  focus (intro wq hq; go_simp; first | done | with_reducible rfl)
                  (simp only [Act.put, List.setIfInBounds_toArray]); (try simp only [List.set_cons_succ]); (try simp only [List.set_cons_zero])
                  refine wpPlan_pure (by simp only [List.getElem?_toArray, List.getElem?_cons_succ, List.getElem?_cons_zero]; rfl) ?_ ?_ ?_ ?_
                  focus exact wanted_none rfl
                  rotate_left
                  focus (intro wq hq; go_simp; first | done | with_reducible rfl)
                  (simp only [Act.put, List.setIfInBounds_toArray]); (try simp only [List.set_cons_succ]); (try simp only [List.set_cons_zero])
                  refine wpPlan_pure (by simp only [List.getElem?_toArray, List.getElem?_cons_succ, List.getElem?_cons_zero]; rfl) ?_ ?_ ?_ ?_
                  focus exact wanted_yes rfl rfl
                  rotate_left
                  focus (intro wq hq; go_simp; first | done | with_reducible rfl)
                  (simp only [Act.put, List.setIfInBounds_toArray]); (try simp only [List.set_cons_succ]); (try simp only [List.set_cons_zero])
                  refine wpPlan_pure (by simp only [List.getElem?_toArray, List.getElem?_cons_succ, List.getElem?_cons_zero]; rfl) ?_ ?_ ?_ ?_
                  focus exact wanted_yes rfl rfl
                  rotate_left
                  focus (intro wq hq; go_simp; first | done | with_reducible rfl)
                  (simp only [Act.put, List.setIfInBounds_toArray]); (try simp only [List.set_cons_succ]); (try simp only [List.set_cons_zero])
                  refine wpPlan_pure (by simp only [List.getElem?_toArray, List.getElem?_cons_succ, List.getElem?_cons_zero]; rfl) ?_ ?_ ?_ ?_
                  focus exact wanted_yes rfl rfl
                  rotate_left
                  focus (intro wq hq; go_simp; first | done | with_reducible rfl)
                  (simp only [Act.put, List.setIfInBounds_toArray]); (try simp only [List.set_cons_succ]); (try simp only [List.set_cons_zero])
                  refine wpPlan_pure (by simp only [List.getElem?_toArray, List.getElem?_cons_succ, List.getElem?_cons_zero]; rfl) ?_ ?_ ?_ ?_
                  focus exact wanted_yes rfl rfl
                  rotate_left
                  focus (intro wq hq; go_simp; first | done | with_reducible rfl)
                  (simp only [Act.put, List.setIfInBounds_toArray]); (try simp only [List.set_cons_succ]); (try simp only [List.set_cons_zero])
                  refine wpPlan_pure (by simp only [List.getElem?_toArray, List.getElem?_cons_succ, List.getElem?_cons_zero]; rfl) ?_ ?_ ?_ ?_
                  focus exact wanted_yes rfl rfl
                  rotate_left
                  focus (intro wq hq; go_simp; first | done | with_reducible rfl)
                  (simp only [Act.put, List.setIfInBounds_toArray]); (try simp only [List.set_cons_succ]); (try simp only [List.set_cons_zero])
                  refine wpPlan_pure (by simp only [List.getElem?_toArray, List.getElem?_cons_succ, List.getElem?_cons_zero]; rfl) ?_ ?_ ?_ ?_
                  focus exact wanted_yes rfl rfl
                  rotate_left
                  focus (intro wq hq; go_simp; first | done | with_reducible rfl)
                  (simp only [Act.put, List.setIfInBounds_toArray]); (try simp only [List.set_cons_succ]); (try simp only [List.set_cons_zero])
                  refine wpPlan_pure (by simp only [List.getElem?_toArray, List.getElem?_cons_succ, List.getElem?_cons_zero]; rfl) ?_ ?_ ?_ ?_
                  focus exact wanted_yes rfl rfl
                  rotate_left
                  focus (intro wq hq; go_simp; first | done | with_reducible rfl)
                  (simp only [Act.put, List.setIfInBounds_toArray]); (try simp only [List.set_cons_succ]); (try simp only [List.set_cons_zero])
                  refine wpPlan_pure (by simp only [List.getElem?_toArray, List.getElem?_cons_succ, List.getElem?_cons_zero]; rfl) ?_ ?_ ?_ ?_
                  focus exact wanted_yes rfl rfl
                  rotate_left
                  focus (intro wq hq; go_simp; first | done | with_reducible rfl)
                  (simp only [Act.put, List.setIfInBounds_toArray]); (try simp only [List.set_cons_succ]); (try simp only [List.set_cons_zero])
                  refine wpPlan_solo (by simp only [List.getElem?_toArray, List.getElem?_cons_succ, List.getElem?_cons_zero]; rfl) ?_ (fun K hK => ?_)
                  focus exact wanted_yes rfl rfl
                  go_simp
                  go_at_call 73
                  refine (where_any _ _ _ _ _ _ _ _ hlv (hrowD _ (by (repeat (first | with_reducible assumption | refine Since.alloc ?_ _ | refine Since.drew ?_ | refine Since.next ?_ (by with_reducible assumption)))))).mono ?_
                  rintro _ w2 ⟨i2, rfl, hi2, hb2⟩
                  refine hK.out _ _ ?_ ?_
                  focus (repeat (first | with_reducible assumption | refine Since.alloc ?_ _ | refine Since.drew ?_ | refine Since.next ?_ (by with_reducible assumption)))
                  clear hK K
                  try (simp only [Act.put, List.setIfInBounds_toArray]); (try simp only [List.set_cons_succ]); (try simp only [List.set_cons_zero])
                  refine wpPlan_pure (by simp only [List.getElem?_toArray, List.getElem?_cons_succ, List.getElem?_cons_zero]; rfl) ?_ ?_ ?_ ?_
                  focus exact wanted_yes rfl rfl
                  rotate_left
                  focus (intro wq hq; go_simp; first | done | with_reducible rfl)
                  (simp only [Act.put, List.setIfInBounds_toArray]); (try simp only [List.set_cons_succ]); (try simp only [List.set_cons_zero])
                  refine wpPlan_pure (by simp only [List.getElem?_toArray, List.getElem?_cons_succ, List.getElem?_cons_zero]; rfl) ?_ ?_ ?_ ?_
                  focus exact wanted_none rfl
                  rotate_left
                  focus (intro wq hq; go_simp; first | done | with_reducible rfl)
                  (simp only [Act.put, List.setIfInBounds_toArray]); (try simp only [List.set_cons_succ]); (try simp only [List.set_cons_zero])
                  refine wpPlan_nil ?_
                  by_cases heq : i2 = ((k + 1 : Nat) : Int)
                  · have hne : (i2 != ((k : Int) + 1)) = false := by simp [heq]
                    (try simp only [hne])
                    exact hF _ _ ⟨⟨_, _, _, _, _, _, _, _, _, _, _, _, _, _, _, _, _, _, _, _, _, _, _, _, _, _, _, _, _, _, rfl⟩, (by (repeat (first | with_reducible assumption | refine Since.alloc ?_ _ | refine Since.drew ?_ | refine Since.next ?_ (by with_reducible assumption)))), hr.1 e1, (fun z _ hz => by rw [Nat.add_sub_cancel, hy] at hz; injection hz with hz; subst hz; have := of_decide_eq_false e15; omega), heq ▸ hi2⟩
                  · have hne : (i2 != ((k : Int) + 1)) = true := by simpa using heq
                    (try simp only [hne])
                    exact hT _ _ ⟨⟨_, _, _, _, _, _, _, _, _, _, _, _, _, _, _, _, _, _, _, _, _, _, _, _, _, _, _, _, _, _, rfl⟩, (by (repeat (first | with_reducible assumption | refine Since.alloc ?_ _ | refine Since.drew ?_ | refine Since.next ?_ (by with_reducible assumption)))), (not_may_where (B := B) hx hi2 heq)⟩
                case true =>
                  try simp only [e15]
                  refine wpPlan_pure (by simp only [List.getElem?_toArray, List.getElem?_cons_succ, List.getElem?_cons_zero]; rfl) ?_ ?_ ?_ ?_
                  focus exact wanted_yes rfl rfl
                  rotate_left
                  focus (intro wq hq; go_simp; first | done | with_reducible rfl)
                  (simp only [Act.put, List.setIfInBounds_toArray]); (try simp only [List.set_cons_succ]); (try simp only [List.set_cons_zero])
                  refine wpPlan_pure (by simp only [List.getElem?_toArray, List.getElem?_cons_succ, List.getElem?_cons_zero]; rfl) ?_ ?_ ?_ ?_
                  focus exact wanted_none rfl
                  rotate_left
                  focus (intro wq hq; go_simp; first | done | with_reducible rfl)
                  (simp only [Act.put, List.setIfInBounds_toArray]); (try simp only [List.set_cons_succ]); (try simp only [List.set_cons_zero])
                  refine wpPlan_pure (by simp only [List.getElem?_toArray, List.getElem?_cons_succ, List.getElem?_cons_zero]; rfl) ?_ ?_ ?_ ?_
                  focus exact wanted_none rfl
                  rotate_left
                  focus (intro wq hq; go_simp; first | done | with_reducible rfl)
                  (simp only [Act.put, List.setIfInBounds_toArray]); (try simp only [List.set_cons_succ]); (try simp only [List.set_cons_zero])
                  refine wpPlan_skip (by simp only [List.getElem?_toArray, List.getElem?_cons_succ, List.getElem?_cons_zero]; rfl) ?_ ?_
                  focus exact unwanted rfl rfl rfl
                  (simp only [Act.put, List.setIfInBounds_toArray]); (try simp only [List.set_cons_succ]); (try simp only [List.set_cons_zero])
                  refine wpPlan_skip (by simp only [List.getElem?_toArray, List.getElem?_cons_succ, List.getElem?_cons_zero]; rfl) ?_ ?_
                  focus exact unwanted rfl rfl rfl
                  (simp only [Act.put, List.setIfInBounds_toArray]); (try simp only [List.set_cons_succ]); (try simp only [List.set_cons_zero])
                  refine wpPlan_skip (by simp only [List.getElem?_toArray, List.getElem?_cons_succ, List.getElem?_cons_zero]; rfl) ?_ ?_
                  focus exact unwanted rfl rfl rfl
                  (simp only [Act.put, List.setIfInBounds_toArray]); (try simp only [List.set_cons_succ]); (try simp only [List.set_cons_zero])
                  refine wpPlan_skip (by simp only [List.getElem?_toArray, List.getElem?_cons_succ, List.getElem?_cons_zero]; rfl) ?_ ?_
                  focus exact unwanted rfl rfl rfl
                  (simp only [Act.put, List.setIfInBounds_toArray]); (try simp only [List.set_cons_succ]); (try simp only [List.set_cons_zero])
                  refine wpPlan_skip (by simp only [List.getElem?_toArray, List.getElem?_cons_succ, List.getElem?_cons_zero]; rfl) ?_ ?_
                  focus exact unwanted rfl rfl rfl
                  (simp only [Act.put, List.setIfInBounds_toArray]); (try simp only [List.set_cons_succ]); (try simp only [List.set_cons_zero])
                  refine wpPlan_skip (by simp only [List.getElem?_toArray, List.getElem?_cons_succ, List.getElem?_cons_zero]; rfl) ?_ ?_
                  focus exact unwanted rfl rfl rfl
                  (simp only [Act.put, List.setIfInBounds_toArray]); (try simp only [List.set_cons_succ]); (try simp only [List.set_cons_zero])
                  refine wpPlan_skip (by simp only [List.getElem?_toArray, List.getElem?_cons_succ, List.getElem?_cons_zero]; rfl) ?_ ?_
                  focus exact unwanted rfl rfl rfl
                  (simp only [Act.put, List.setIfInBounds_toArray]); (try simp only [List.set_cons_succ]); (try simp only [List.set_cons_zero])
                  refine wpPlan_skip (by simp only [List.getElem?_toArray, List.getElem?_cons_succ, List.getElem?_cons_zero]; rfl) ?_ ?_
                  focus exact unwanted rfl rfl rfl
                  (simp only [Act.put, List.setIfInBounds_toArray]); (try simp only [List.set_cons_succ]); (try simp only [List.set_cons_zero])
                  refine wpPlan_skip (by simp only [List.getElem?_toArray, List.getElem?_cons_succ, List.getElem?_cons_zero]; rfl) ?_ ?_
                  focus exact unwanted rfl rfl rfl
                  (simp only [Act.put, List.setIfInBounds_toArray]); (try simp only [List.set_cons_succ]); (try simp only [List.set_cons_zero])
                  refine wpPlan_skip (by simp only [List.getElem?_toArray, List.getElem?_cons_succ, List.getElem?_cons_zero]; rfl) ?_ ?_
                  focus exact unwanted rfl rfl rfl
                  (simp only [Act.put, List.setIfInBounds_toArray]); (try simp only [List.set_cons_succ]); (try simp only [List.set_cons_zero])
                  refine wpPlan_pure (by simp only [List.getElem?_toArray, List.getElem?_cons_succ, List.getElem?_cons_zero]; rfl) ?_ ?_ ?_ ?_
                  focus exact wanted_none rfl
                  rotate_left
                  focus (intro wq hq; go_simp; first | done | with_reducible rfl)
                  (simp only [Act.put, List.setIfInBounds_toArray]); (try simp only [List.set_cons_succ]); (try simp only [List.set_cons_zero])
                  refine wpPlan_nil ?_
                  exact hT _ _ ⟨⟨_, _, _, _, _, _, _, _, _, _, _, _, _, _, _, _, _, _, _, _, _, _, _, _, _, _, _, _, _, _, rfl⟩, (by (repeat (first | with_reducible assumption | refine Since.alloc ?_ _ | refine Since.drew ?_ | refine Since.next ?_ (by with_reducible assumption)))), (not_may_adj (B := B) hx hy (of_decide_eq_true e15))⟩
          · rintro a' w' ⟨⟨v29, v30, v31, v32, v33, v34, v35, v36, v37, v38, v39, v40, v41, v42, v43, v44, v45, v46, v47, v48, v49, v50, v51, v52, v53, v54, v55, v56, v57, v58, rfl⟩, hS, hbad⟩
            simp only [List.take_succ_cons, List.take_zero, List.drop_succ_cons, List.drop_zero, List.drop_nil, List.cons_append, List.nil_append, List.append_nil]
            go_wp2_with fail
            go_ret
            exact AnsB.mk _ rfl (by simp [hbad]) ((Since.trans hw6 hS).below)
          · rintro a' w' ⟨⟨v29, v30, v31, v32, v33, v34, v35, v36, v37, v38, v39, v40, v41, v42, v43, v44, v45, v46, v47, v48, v49, v50, v51, v52, v53, v54, v55, v56, v57, v58, rfl⟩, hS, hgood1, hgood2, hgood3⟩
            simp only [List.take_succ_cons, List.take_zero, List.drop_succ_cons, List.drop_zero, List.drop_nil, List.cons_append, List.nil_append, List.append_nil]
            go_wp2_with fail
            exact ⟨⟨k + 1 + 1, (by omega), (by go_num), Since.trans hw16 hS, vipsTo_step hx hgood1 hgood2 hgood3 hok⟩, (by simp only [intOf]; omega)⟩

      · have hkv : k0 = V.length := by omega
        subst hkv
        go_wp2_with fail
        have hok1 := hok
        have hb0 := hb
        clear hok hk hkl f0 f1 hbw hb
        go_loopw [5, 6] (fun i _ wr => ∃ k : Nat, k ≤ B.length ∧ i = .int .i64 k ∧ Since (w.alloc (.cells #[.slice pv V.length cv, .slice pb B.length cb] 45)) wr ∧ backsTo V B k) (fun i _ => fun _ => B.length - (intOf i).toNat)
        case atStart => exact ⟨0, Nat.zero_le _, rfl, hb0, fun i v h => by omega⟩
        case round =>
          clear hb0
          obtain ⟨k0, hk, rfl, hb, hok⟩ := hrel
          rename_i wr
          have hbw : Since w wr := (Since.first w _).trans hb
          have f0 : wr.cell? ⟨w.heap.size, 0, none⟩ = some (.slice pv V.length cv) := (hb.below.cell (by simp)).trans (by simp)
          have f1 : wr.cell? ⟨w.heap.size, 1, none⟩ = some (.slice pb B.length cb) := (hb.below.cell (by simp)).trans (by simp)
          by_cases hkl : k0 < B.length
          · have hx : B[k0]? = some B[k0] := List.getElem?_eq_getElem hkl
            obtain ⟨b, o, rfl, h0, h1, h2, h3, h4, h5⟩ := back_cells (hB.below hbw.below) hx
            have hxw : backW B[k0] := wB _ (List.getElem_mem hkl)
            generalize B[k0] = x at *
            have hlt : w.heap.size < wr.heap.size := by have := hb.below.size; simp at this; omega
            have hw16 := hb.alloc (.cells #[.int .i64 x.1, .int .i64 x.2.1, .int .u32 x.2.2.1, .int .i64 x.2.2.2.1, .int .i64 x.2.2.2.2.1, .bool x.2.2.2.2.2] 81)
            have hw6 : Since w (wr.alloc (.cells #[.int .i64 x.1, .int .i64 x.2.1, .int .u32 x.2.2.1, .int .i64 x.2.2.2.1, .int .i64 x.2.2.2.2.1, .bool x.2.2.2.2.2] 81)) := hbw.alloc _
            have hrowD := fun (w' : World) (h : Since (wr.alloc (.cells #[.int .i64 x.1, .int .i64 x.2.1, .int .u32 x.2.2.1, .int .i64 x.2.2.2.1, .int .i64 x.2.2.2.2.1, .bool x.2.2.2.2.2] 81)) w') => hV.below (hw6.trans h).below
            have fa : ∀ (i : Nat) (u : Value), wr.cell? ⟨w.heap.size, i, none⟩ = some u → ∀ w', Since (wr.alloc (.cells #[.int .i64 x.1, .int .i64 x.2.1, .int .u32 x.2.2.1, .int .i64 x.2.2.2.1, .int .i64 x.2.2.2.2.1, .bool x.2.2.2.2.2] 81)) w' → w'.cell? ⟨w.heap.size, i, none⟩ = some u := fun i u hu w' h =>
              (h.below.cell (by simp; omega)).trans ((World.cell?_alloc_lt wr _ _ (by simpa using hlt)).trans hu)
            have D0 := fa 0 _ f0
            have D1 := fa 1 _ f1
            have G0 : ∀ w', Since (wr.alloc (.cells #[.int .i64 x.1, .int .i64 x.2.1, .int .u32 x.2.2.1, .int .i64 x.2.2.2.1, .int .i64 x.2.2.2.2.1, .bool x.2.2.2.2.2] 81)) w' → w'.cell? ⟨wr.heap.size, 0, none⟩ = some (.int .i64 x.1) := fun w' h => (h.below.cell (by simp)).trans (by simp)
            have G1 : ∀ w', Since (wr.alloc (.cells #[.int .i64 x.1, .int .i64 x.2.1, .int .u32 x.2.2.1, .int .i64 x.2.2.2.1, .int .i64 x.2.2.2.2.1, .bool x.2.2.2.2.2] 81)) w' → w'.cell? ⟨wr.heap.size, 1, none⟩ = some (.int .i64 x.2.1) := fun w' h => (h.below.cell (by simp)).trans (by simp)
            have G2 : ∀ w', Since (wr.alloc (.cells #[.int .i64 x.1, .int .i64 x.2.1, .int .u32 x.2.2.1, .int .i64 x.2.2.2.1, .int .i64 x.2.2.2.2.1, .bool x.2.2.2.2.2] 81)) w' → w'.cell? ⟨wr.heap.size, 2, none⟩ = some (.int .u32 x.2.2.1) := fun w' h => (h.below.cell (by simp)).trans (by simp)
            have G3 : ∀ w', Since (wr.alloc (.cells #[.int .i64 x.1, .int .i64 x.2.1, .int .u32 x.2.2.1, .int .i64 x.2.2.2.1, .int .i64 x.2.2.2.2.1, .bool x.2.2.2.2.2] 81)) w' → w'.cell? ⟨wr.heap.size, 3, none⟩ = some (.int .i64 x.2.2.2.1) := fun w' h => (h.below.cell (by simp)).trans (by simp)
            have G4 : ∀ w', Since (wr.alloc (.cells #[.int .i64 x.1, .int .i64 x.2.1, .int .u32 x.2.2.1, .int .i64 x.2.2.2.1, .int .i64 x.2.2.2.2.1, .bool x.2.2.2.2.2] 81)) w' → w'.cell? ⟨wr.heap.size, 4, none⟩ = some (.int .i64 x.2.2.2.2.1) := fun w' h => (h.below.cell (by simp)).trans (by simp)
            have G5 : ∀ w', Since (wr.alloc (.cells #[.int .i64 x.1, .int .i64 x.2.1, .int .u32 x.2.2.1, .int .i64 x.2.2.2.1, .int .i64 x.2.2.2.2.1, .bool x.2.2.2.2.2] 81)) w' → w'.cell? ⟨wr.heap.size, 5, none⟩ = some (.bool x.2.2.2.2.2) := fun w' h => (h.below.cell (by simp)).trans (by simp)
            have hs6 : Since (wr.alloc (.cells #[.int .i64 x.1, .int .i64 x.2.1, .int .u32 x.2.2.1, .int .i64 x.2.2.2.1, .int .i64 x.2.2.2.2.1, .bool x.2.2.2.2.2] 81)) (wr.alloc (.cells #[.int .i64 x.1, .int .i64 x.2.1, .int .u32 x.2.2.1, .int .i64 x.2.2.2.1, .int .i64 x.2.2.2.2.1, .bool x.2.2.2.2.2] 81)) := Since.refl _
            clear fa
            rcases k0 with _ | k
            · simp only [Nat.zero_mul, Nat.add_zero] at h0 h1 h2 h3 h4 h5
              go_wp2_with fail
              refine region_two (by intro c a d v w h; cases d <;> exact h) (fun a a' w' => out13 a true a' ∧ Since (wr.alloc (.cells #[.int .i64 x.1, .int .i64 x.2.1, .int .u32 x.2.2.1, .int .i64 x.2.2.2.1, .int .i64 x.2.2.2.2.1, .bool x.2.2.2.2.2] 81)) w' ∧ ¬ farmMay V B) (fun a a' w' => out13 a false a' ∧ Since (wr.alloc (.cells #[.int .i64 x.1, .int .i64 x.2.1, .int .u32 x.2.2.1, .int .i64 x.2.2.2.1, .int .i64 x.2.2.2.2.1, .bool x.2.2.2.2.2] 81)) w' ∧ (backMay x ∧ (∀ y, 0 < 0 → B[0 - 1]? = some y → y.1 < x.1) ∧ ∃ v ∈ V, v.1 = x.2.1)) ?_ ?_ ?_
              · intro Q hQ hT hF
                go_light
                refine wp_region_lexp (Since (wr.alloc (.cells #[.int .i64 x.1, .int .i64 x.2.1, .int .u32 x.2.2.1, .int .i64 x.2.2.2.1, .int .i64 x.2.2.2.2.1, .bool x.2.2.2.2.2] 81))) [false, true, false, false, false, false, false, false, false, false, false, false, false, false, false, false, false, false, false, false, false, false, false, true, false, false] (by kernel_rfl) rright13_ok hQ (Since.refl _).drew ?_
                refine wpLexP_pure ?_ ?_ ?_ ?_
                focus exact wanted_none rfl
                rotate_left
                focus (intro wq hq; go_simp; first | done | with_reducible rfl)
                (simp only [Act.put, List.setIfInBounds_toArray]); (try simp only [List.set_cons_succ]); (try simp only [List.set_cons_zero])
                refine wpLexP_solo ?_ (fun K hK => ?_)
                focus exact wanted_none rfl
                go_simp
                go_at_call 74
                refine (goodBackend_any x hxw _).mono ?_
                rintro _ w1 ⟨r, rfl, hr, hb1⟩
                refine hK.out _ _ ?_ ?_
                focus (repeat (first | with_reducible assumption | refine Since.alloc ?_ _ | refine Since.drew ?_ | refine Since.next ?_ (by with_reducible assumption)))
                clear hK K
                try (simp only [Act.put, List.setIfInBounds_toArray]); (try simp only [List.set_cons_succ]); (try simp only [List.set_cons_zero])
                cases e1 : r
                case false =>
                  try simp only [e1]
                  refine wpLexP_pure ?_ ?_ ?_ ?_
                  focus exact wanted_none rfl
                  rotate_left
                  focus (intro wq hq; go_simp; first | done | with_reducible rfl)
                  (simp only [Act.put, List.setIfInBounds_toArray]); (try simp only [List.set_cons_succ]); (try simp only [List.set_cons_zero])
                  refine wpLexP_pure ?_ ?_ ?_ ?_
                  focus exact wanted_none rfl
                  rotate_left
                  focus (intro wq hq; go_simp; first | done | with_reducible rfl)
                  (simp only [Act.put, List.setIfInBounds_toArray]); (try simp only [List.set_cons_succ]); (try simp only [List.set_cons_zero])
                  refine wpLexP_skip ?_ ?_
                  focus exact unwanted rfl rfl rfl
                  (simp only [Act.put, List.setIfInBounds_toArray]); (try simp only [List.set_cons_succ]); (try simp only [List.set_cons_zero])
                  refine wpLexP_skip ?_ ?_
                  focus exact unwanted rfl rfl rfl
                  (simp only [Act.put, List.setIfInBounds_toArray]); (try simp only [List.set_cons_succ]); (try simp only [List.set_cons_zero])
                  refine wpLexP_skip ?_ ?_
                  focus exact unwanted rfl rfl rfl
                  (simp only [Act.put, List.setIfInBounds_toArray]); (try simp only [List.set_cons_succ]); (try simp only [List.set_cons_zero])
                  refine wpLexP_skip ?_ ?_
                  focus exact unwanted_none rfl rfl
                  (simp only [Act.put, List.setIfInBounds_toArray]); (try simp only [List.set_cons_succ]); (try simp only [List.set_cons_zero])
                  refine wpLexP_skip ?_ ?_
                  focus exact unwanted_none rfl rfl
                  (simp only [Act.put, List.setIfInBounds_toArray]); (try simp only [List.set_cons_succ]); (try simp only [List.set_cons_zero])
                  refine wpLexP_skip ?_ ?_
                  focus exact unwanted_none rfl rfl
                  (simp only [Act.put, List.setIfInBounds_toArray]); (try simp only [List.set_cons_succ]); (try simp only [List.set_cons_zero])
                  refine wpLexP_skip ?_ ?_
                  focus exact unwanted_none rfl rfl
                  (simp only [Act.put, List.setIfInBounds_toArray]); (try simp only [List.set_cons_succ]); (try simp only [List.set_cons_zero])
                  refine wpLexP_skip ?_ ?_
                  focus exact unwanted_none rfl rfl
                  (simp only [Act.put, List.setIfInBounds_toArray]); (try simp only [List.set_cons_succ]); (try simp only [List.set_cons_zero])
                  refine wpLexP_skip ?_ ?_
                  focus exact unwanted_none rfl rfl
                  (simp only [Act.put, List.setIfInBounds_toArray]); (try simp only [List.set_cons_succ]); (try simp only [List.set_cons_zero])
                  refine wpLexP_skip ?_ ?_
                  focus exact unwanted_none rfl rfl
                  (simp only [Act.put, List.setIfInBounds_toArray]); (try simp only [List.set_cons_succ]); (try simp only [List.set_cons_zero])
                  refine wpLexP_skip ?_ ?_
                  focus exact unwanted_none rfl rfl
                  (simp only [Act.put, List.setIfInBounds_toArray]); (try simp only [List.set_cons_succ]); (try simp only [List.set_cons_zero])
                  refine wpLexP_skip ?_ ?_
                  focus exact unwanted_none rfl rfl
                  (simp only [Act.put, List.setIfInBounds_toArray]); (try simp only [List.set_cons_succ]); (try simp only [List.set_cons_zero])
                  refine wpLexP_skip ?_ ?_
                  focus exact unwanted_none rfl rfl
                  (simp only [Act.put, List.setIfInBounds_toArray]); (try simp only [List.set_cons_succ]); (try simp only [List.set_cons_zero])
                  refine wpLexP_skip ?_ ?_
                  focus exact unwanted rfl rfl rfl
                  (simp only [Act.put, List.setIfInBounds_toArray]); (try simp only [List.set_cons_succ]); (try simp only [List.set_cons_zero])
                  refine wpLexP_pure ?_ ?_ ?_ ?_
                  focus exact wanted_none rfl
                  rotate_left
                  focus (intro wq hq; go_simp; first | done | with_reducible rfl)
                  (simp only [Act.put, List.setIfInBounds_toArray]); (try simp only [List.set_cons_succ]); (try simp only [List.set_cons_zero])
                  refine wpLexP_pure ?_ ?_ ?_ ?_
                  focus exact wanted_none rfl
                  rotate_left
                  focus (intro wq hq; go_simp; first | done | with_reducible rfl)
                  (simp only [Act.put, List.setIfInBounds_toArray]); (try simp only [List.set_cons_succ]); (try simp only [List.set_cons_zero])
                  refine wpLexP_skip ?_ ?_
                  focus exact unwanted rfl rfl rfl
                  (simp only [Act.put, List.setIfInBounds_toArray]); (try simp only [List.set_cons_succ]); (try simp only [List.set_cons_zero])
                  refine wpLexP_skip ?_ ?_
                  focus exact unwanted rfl rfl rfl
                  (simp only [Act.put, List.setIfInBounds_toArray]); (try simp only [List.set_cons_succ]); (try simp only [List.set_cons_zero])
                  refine wpLexP_skip ?_ ?_
                  focus exact unwanted rfl rfl rfl
                  (simp only [Act.put, List.setIfInBounds_toArray]); (try simp only [List.set_cons_succ]); (try simp only [List.set_cons_zero])
                  refine wpLexP_skip ?_ ?_
                  focus exact unwanted rfl rfl rfl
                  (simp only [Act.put, List.setIfInBounds_toArray]); (try simp only [List.set_cons_succ]); (try simp only [List.set_cons_zero])
                  refine wpLexP_skip ?_ ?_
                  focus exact unwanted rfl rfl rfl
                  (simp only [Act.put, List.setIfInBounds_toArray]); (try simp only [List.set_cons_succ]); (try simp only [List.set_cons_zero])
                  refine wpLexP_pure ?_ ?_ ?_ ?_
                  focus exact wanted_none rfl
                  rotate_left
                  focus (intro wq hq; go_simp; first | done | with_reducible rfl)
                  (simp only [Act.put, List.setIfInBounds_toArray]); (try simp only [List.set_cons_succ]); (try simp only [List.set_cons_zero])
                  refine wpLexP_nil ?_
                  exact hT _ _ ⟨⟨_, _, _, _, _, _, _, _, _, _, _, _, _, _, _, _, _, _, _, _, _, _, _, _, _, rfl⟩, (by (repeat (first | with_reducible assumption | refine Since.alloc ?_ _ | refine Since.drew ?_ | refine Since.next ?_ (by with_reducible assumption)))), (not_may_back (V := V) hx (fun h => by have h9 := hr.2 h; rw [e1] at h9; cases h9))⟩
                case true =>
                  try simp only [e1]
                  refine wpLexP_pure ?_ ?_ ?_ ?_
                  focus exact wanted_none rfl
                  rotate_left
                  focus (intro wq hq; go_simp; first | done | with_reducible rfl)
                  (simp only [Act.put, List.setIfInBounds_toArray]); (try simp only [List.set_cons_succ]); (try simp only [List.set_cons_zero])
                  refine wpLexP_pure ?_ ?_ ?_ ?_
                  focus exact wanted_none rfl
                  rotate_left
                  focus (intro wq hq; go_simp; first | done | with_reducible rfl)
                  (simp only [Act.put, List.setIfInBounds_toArray]); (try simp only [List.set_cons_succ]); (try simp only [List.set_cons_zero])
                  refine wpLexP_pure ?_ ?_ ?_ ?_
                  focus exact wanted_yes rfl rfl
                  rotate_left
                  focus (intro wq hq; go_simp; first | done | with_reducible rfl)
                  (simp only [Act.put, List.setIfInBounds_toArray]); (try simp only [List.set_cons_succ]); (try simp only [List.set_cons_zero])
                  refine wpLexP_pure ?_ ?_ ?_ ?_
                  focus exact wanted_yes rfl rfl
                  rotate_left
                  focus (intro wq hq; go_simp; first | done | with_reducible rfl)
                  (simp only [Act.put, List.setIfInBounds_toArray]); (try simp only [List.set_cons_succ]); (try simp only [List.set_cons_zero])
                  cases e5 : decide ((0 : Int) < 0)
                  case false =>
                    try simp only [e5]
                    refine wpLexP_pure ?_ ?_ ?_ ?_
                    focus exact wanted_yes rfl rfl
                    rotate_left
                    focus (intro wq hq; go_simp; first | done | with_reducible rfl)
                    (simp only [Act.put, List.setIfInBounds_toArray]); (try simp only [List.set_cons_succ]); (try simp only [List.set_cons_zero])
                    refine wpLexP_skip ?_ ?_
                    focus exact unwanted rfl rfl rfl
                    (simp only [Act.put, List.setIfInBounds_toArray]); (try simp only [List.set_cons_succ]); (try simp only [List.set_cons_zero])
                    refine wpLexP_skip ?_ ?_
                    focus exact unwanted rfl rfl rfl
                    (simp only [Act.put, List.setIfInBounds_toArray]); (try simp only [List.set_cons_succ]); (try simp only [List.set_cons_zero])
                    refine wpLexP_skip ?_ ?_
                    focus exact unwanted rfl rfl rfl
                    (simp only [Act.put, List.setIfInBounds_toArray]); (try simp only [List.set_cons_succ]); (try simp only [List.set_cons_zero])
                    refine wpLexP_skip ?_ ?_
                    focus exact unwanted rfl rfl rfl
                    (simp only [Act.put, List.setIfInBounds_toArray]); (try simp only [List.set_cons_succ]); (try simp only [List.set_cons_zero])
                    refine wpLexP_skip ?_ ?_
                    focus exact unwanted rfl rfl rfl
                    (simp only [Act.put, List.setIfInBounds_toArray]); (try simp only [List.set_cons_succ]); (try simp only [List.set_cons_zero])
                    refine wpLexP_skip ?_ ?_
                    focus exact unwanted rfl rfl rfl
                    (simp only [Act.put, List.setIfInBounds_toArray]); (try simp only [List.set_cons_succ]); (try simp only [List.set_cons_zero])
                    refine wpLexP_skip ?_ ?_
                    focus exact unwanted rfl rfl rfl
                    (simp only [Act.put, List.setIfInBounds_toArray]); (try simp only [List.set_cons_succ]); (try simp only [List.set_cons_zero])
                    refine wpLexP_skip ?_ ?_
                    focus exact unwanted rfl rfl rfl
                    (simp only [Act.put, List.setIfInBounds_toArray]); (try simp only [List.set_cons_succ]); (try simp only [List.set_cons_zero])
                    refine wpLexP_skip ?_ ?_
                    focus exact unwanted rfl rfl rfl
                    (simp only [Act.put, List.setIfInBounds_toArray]); (try simp only [List.set_cons_succ]); (try simp only [List.set_cons_zero])
                    refine wpLexP_skip ?_ ?_
                    focus exact unwanted rfl rfl rfl
                    (simp only [Act.put, List.setIfInBounds_toArray]); (try simp only [List.set_cons_succ]); (try simp only [List.set_cons_zero])
                    refine wpLexP_pure ?_ ?_ ?_ ?_
                    focus exact wanted_yes rfl rfl
                    rotate_left
                    focus (intro wq hq; go_simp; first | done | with_reducible rfl)
                    (simp only [Act.put, List.setIfInBounds_toArray]); (try simp only [List.set_cons_succ]); (try simp only [List.set_cons_zero])
                    refine wpLexP_pure ?_ ?_ ?_ ?_
                    focus exact wanted_none rfl
                    rotate_left
                    focus (intro wq hq; go_simp; first | done | with_reducible rfl)
                    (simp only [Act.put, List.setIfInBounds_toArray]); (try simp only [List.set_cons_succ]); (try simp only [List.set_cons_zero])
                    refine wpLexP_pure ?_ ?_ ?_ ?_
                    focus exact wanted_none rfl
                    rotate_left
                    focus (intro wq hq; go_simp; first | done | with_reducible rfl)
                    (simp only [Act.put, List.setIfInBounds_toArray]); (try simp only [List.set_cons_succ]); (try simp only [List.set_cons_zero])
                    refine wpLexP_pure ?_ ?_ ?_ ?_
                    focus exact wanted_yes rfl rfl
                    rotate_left
                    focus (intro wq hq; go_simp; first | done | with_reducible rfl)
                    (simp only [Act.put, List.setIfInBounds_toArray]); (try simp only [List.set_cons_succ]); (try simp only [List.set_cons_zero])
                    refine wpLexP_pure ?_ ?_ ?_ ?_
                    focus exact wanted_yes rfl rfl
                    rotate_left
                    focus (intro wq hq; go_simp; first | done | with_reducible rfl)
                    (simp only [Act.put, List.setIfInBounds_toArray]); (try simp only [List.set_cons_succ]); (try simp only [List.set_cons_zero])
                    refine wpLexP_pure ?_ ?_ ?_ ?_
                    focus exact wanted_yes rfl rfl
                    rotate_left
                    focus (intro wq hq; go_simp; first | done | with_reducible rfl)
                    (simp only [Act.put, List.setIfInBounds_toArray]); (try simp only [List.set_cons_succ]); (try simp only [List.set_cons_zero])
                    refine wpLexP_solo ?_ (fun K hK => ?_)
                    focus exact wanted_yes rfl rfl
                    go_simp
                    go_at_call 75
                    refine (vipAt_any _ _ _ _ _ _ hlv (hrowD _ (by (repeat (first | with_reducible assumption | refine Since.alloc ?_ _ | refine Since.drew ?_ | refine Since.next ?_ (by with_reducible assumption)))))).mono ?_
                    rintro _ w2 ⟨i2, rfl, hi2, hb2⟩
                    refine hK.out _ _ ?_ ?_
                    focus (repeat (first | with_reducible assumption | refine Since.alloc ?_ _ | refine Since.drew ?_ | refine Since.next ?_ (by with_reducible assumption)))
                    clear hK K
                    try (simp only [Act.put, List.setIfInBounds_toArray]); (try simp only [List.set_cons_succ]); (try simp only [List.set_cons_zero])
                    refine wpLexP_pure ?_ ?_ ?_ ?_
                    focus exact wanted_yes rfl rfl
                    rotate_left
                    focus (intro wq hq; go_simp; first | done | with_reducible rfl)
                    (simp only [Act.put, List.setIfInBounds_toArray]); (try simp only [List.set_cons_succ]); (try simp only [List.set_cons_zero])
                    refine wpLexP_pure ?_ ?_ ?_ ?_
                    focus exact wanted_none rfl
                    rotate_left
                    focus (intro wq hq; go_simp; first | done | with_reducible rfl)
                    (simp only [Act.put, List.setIfInBounds_toArray]); (try simp only [List.set_cons_succ]); (try simp only [List.set_cons_zero])
                    refine wpLexP_nil ?_
                    by_cases heq : i2 < 0
                    · have hne : decide (i2 < 0) = true := by simpa using heq
                      (try simp only [hne])
                      exact hT _ _ ⟨⟨_, _, _, _, _, _, _, _, _, _, _, _, _, _, _, _, _, _, _, _, _, _, _, _, _, rfl⟩, (by (repeat (first | with_reducible assumption | refine Since.alloc ?_ _ | refine Since.drew ?_ | refine Since.next ?_ (by with_reducible assumption)))), (not_may_none hx ((firstAt_neg hi2).1 heq))⟩
                    · have hne : decide (i2 < 0) = false := by simpa using heq
                      (try simp only [hne])
                      exact hF _ _ ⟨⟨_, _, _, _, _, _, _, _, _, _, _, _, _, _, _, _, _, _, _, _, _, _, _, _, _, rfl⟩, (by (repeat (first | with_reducible assumption | refine Since.alloc ?_ _ | refine Since.drew ?_ | refine Since.next ?_ (by with_reducible assumption)))), hr.1 e1, (fun y h0 => by omega), Classical.byContradiction fun hn => heq ((firstAt_neg hi2).2 (fun v hv he => hn ⟨v, hv, he⟩))⟩
                  case true =>
                    (exfalso; revert e5; simp)
              · rintro a' w' ⟨⟨v72, v73, v74, v75, v76, v77, v78, v79, v80, v81, v82, v83, v84, v85, v86, v87, v88, v89, v90, v91, v92, v93, v94, v95, v96, rfl⟩, hS, hbad⟩
                simp only [List.take_succ_cons, List.take_zero, List.drop_succ_cons, List.drop_zero, List.drop_nil, List.cons_append, List.nil_append, List.append_nil]
                go_wp2_with fail
                go_ret
                exact AnsB.mk _ rfl (by simp [hbad]) ((Since.trans hw6 hS).below)
              · rintro a' w' ⟨⟨v72, v73, v74, v75, v76, v77, v78, v79, v80, v81, v82, v83, v84, v85, v86, v87, v88, v89, v90, v91, v92, v93, v94, v95, v96, rfl⟩, hS, hgood1, hgood2, hgood3⟩
                simp only [List.take_succ_cons, List.take_zero, List.drop_succ_cons, List.drop_zero, List.drop_nil, List.cons_append, List.nil_append, List.append_nil]
                go_wp2_with fail
                exact ⟨⟨0 + 1, (by omega), (by go_num), Since.trans hw16 hS, backsTo_step hx hgood1 hgood2 hgood3 hok⟩, (by simp only [intOf]; omega)⟩

            · have hy : B[k]? = some B[k] := List.getElem?_eq_getElem (by omega)
              obtain ⟨b2, o2, he2, y0, _⟩ := back_cells (hB.below hw6.below) hy
              injection he2 with he2; injection he2 with e1 e2 e3; subst e1 e2
              generalize B[k] = y at *
              have Y0 : ∀ w', Since (wr.alloc (.cells #[.int .i64 x.1, .int .i64 x.2.1, .int .u32 x.2.2.1, .int .i64 x.2.2.2.1, .int .i64 x.2.2.2.2.1, .bool x.2.2.2.2.2] 81)) w' → w'.cell? ⟨b, o + k * 6, none⟩ = some (.int .i64 y.1) := fun w' h => (h.below.cell (World.block_lt_of_cell? _ _ y0)).trans y0
              clear y0
              have hkw : IntKind.i64.wrap (k : Int) = (k : Int) := IntWalk.i64_in _ (by omega)
              have hkb0 : (0 : Int) ≤ (k : Int) := by omega
              have hkb1 : (k : Int) < (B.length : Int) := by omega
              go_wp2_with fail
              refine region_two (by intro c a d v w h; cases d <;> exact h) (fun a a' w' => out13 a true a' ∧ Since (wr.alloc (.cells #[.int .i64 x.1, .int .i64 x.2.1, .int .u32 x.2.2.1, .int .i64 x.2.2.2.1, .int .i64 x.2.2.2.2.1, .bool x.2.2.2.2.2] 81)) w' ∧ ¬ farmMay V B) (fun a a' w' => out13 a false a' ∧ Since (wr.alloc (.cells #[.int .i64 x.1, .int .i64 x.2.1, .int .u32 x.2.2.1, .int .i64 x.2.2.2.1, .int .i64 x.2.2.2.2.1, .bool x.2.2.2.2.2] 81)) w' ∧ (backMay x ∧ (∀ y, 0 < k + 1 → B[k + 1 - 1]? = some y → y.1 < x.1) ∧ ∃ v ∈ V, v.1 = x.2.1)) ?_ ?_ ?_
              · intro Q hQ hT hF
                go_light
                refine wp_region_lexp (Since (wr.alloc (.cells #[.int .i64 x.1, .int .i64 x.2.1, .int .u32 x.2.2.1, .int .i64 x.2.2.2.1, .int .i64 x.2.2.2.2.1, .bool x.2.2.2.2.2] 81))) [false, true, false, false, false, false, false, false, false, false, false, false, false, false, false, false, false, false, false, false, false, false, false, true, false, false] (by kernel_rfl) rright13_ok hQ (Since.refl _).drew ?_
                refine wpLexP_pure ?_ ?_ ?_ ?_
                focus exact wanted_none rfl
                rotate_left
                focus (intro wq hq; go_simp; first | done | with_reducible rfl)
                (simp only [Act.put, List.setIfInBounds_toArray]); (try simp only [List.set_cons_succ]); (try simp only [List.set_cons_zero])
                refine wpLexP_solo ?_ (fun K hK => ?_)
                focus exact wanted_none rfl
                go_simp
                go_at_call 74
                refine (goodBackend_any x hxw _).mono ?_
                rintro _ w1 ⟨r, rfl, hr, hb1⟩
                refine hK.out _ _ ?_ ?_
                focus (repeat (first | with_reducible assumption | refine Since.alloc ?_ _ | refine Since.drew ?_ | refine Since.next ?_ (by with_reducible assumption)))
                clear hK K
                try (simp only [Act.put, List.setIfInBounds_toArray]); (try simp only [List.set_cons_succ]); (try simp only [List.set_cons_zero])
                cases e1 : r
                case false =>
                  try simp only [e1]
                  refine wpLexP_pure ?_ ?_ ?_ ?_
                  focus exact wanted_none rfl
                  rotate_left
                  focus (intro wq hq; go_simp; first | done | with_reducible rfl)
                  (simp only [Act.put, List.setIfInBounds_toArray]); (try simp only [List.set_cons_succ]); (try simp only [List.set_cons_zero])
                  refine wpLexP_pure ?_ ?_ ?_ ?_
                  focus exact wanted_none rfl
                  rotate_left
                  focus (intro wq hq; go_simp; first | done | with_reducible rfl)
                  (simp only [Act.put, List.setIfInBounds_toArray]); (try simp only [List.set_cons_succ]); (try simp only [List.set_cons_zero])
                  refine wpLexP_skip ?_ ?_
                  focus exact unwanted rfl rfl rfl
                  (simp only [Act.put, List.setIfInBounds_toArray]); (try simp only [List.set_cons_succ]); (try simp only [List.set_cons_zero])
                  refine wpLexP_skip ?_ ?_
                  focus exact unwanted rfl rfl rfl
                  (simp only [Act.put, List.setIfInBounds_toArray]); (try simp only [List.set_cons_succ]); (try simp only [List.set_cons_zero])
                  refine wpLexP_skip ?_ ?_
                  focus exact unwanted rfl rfl rfl
                  (simp only [Act.put, List.setIfInBounds_toArray]); (try simp only [List.set_cons_succ]); (try simp only [List.set_cons_zero])
                  refine wpLexP_skip ?_ ?_
                  focus exact unwanted_none rfl rfl
                  (simp only [Act.put, List.setIfInBounds_toArray]); (try simp only [List.set_cons_succ]); (try simp only [List.set_cons_zero])
                  refine wpLexP_skip ?_ ?_
                  focus exact unwanted_none rfl rfl
                  (simp only [Act.put, List.setIfInBounds_toArray]); (try simp only [List.set_cons_succ]); (try simp only [List.set_cons_zero])
                  refine wpLexP_skip ?_ ?_
                  focus exact unwanted_none rfl rfl
                  (simp only [Act.put, List.setIfInBounds_toArray]); (try simp only [List.set_cons_succ]); (try simp only [List.set_cons_zero])
                  refine wpLexP_skip ?_ ?_
                  focus exact unwanted_none rfl rfl
                  (simp only [Act.put, List.setIfInBounds_toArray]); (try simp only [List.set_cons_succ]); (try simp only [List.set_cons_zero])
                  refine wpLexP_skip ?_ ?_
                  focus exact unwanted_none rfl rfl
                  (simp only [Act.put, List.setIfInBounds_toArray]); (try simp only [List.set_cons_succ]); (try simp only [List.set_cons_zero])
                  refine wpLexP_skip ?_ ?_
                  focus exact unwanted_none rfl rfl
                  (simp only [Act.put, List.setIfInBounds_toArray]); (try simp only [List.set_cons_succ]); (try simp only [List.set_cons_zero])
                  refine wpLexP_skip ?_ ?_
                  focus exact unwanted_none rfl rfl
                  (simp only [Act.put, List.setIfInBounds_toArray]); (try simp only [List.set_cons_succ]); (try simp only [List.set_cons_zero])
                  refine wpLexP_skip ?_ ?_
                  focus exact unwanted_none rfl rfl
                  (simp only [Act.put, List.setIfInBounds_toArray]); (try simp only [List.set_cons_succ]); (try simp only [List.set_cons_zero])
                  refine wpLexP_skip ?_ ?_
                  focus exact unwanted_none rfl rfl
                  (simp only [Act.put, List.setIfInBounds_toArray]); (try simp only [List.set_cons_succ]); (try simp only [List.set_cons_zero])
                  refine wpLexP_skip ?_ ?_
                  focus exact unwanted_none rfl rfl
                  (simp only [Act.put, List.setIfInBounds_toArray]); (try simp only [List.set_cons_succ]); (try simp only [List.set_cons_zero])
                  refine wpLexP_skip ?_ ?_
                  focus exact unwanted rfl rfl rfl
                  (simp only [Act.put, List.setIfInBounds_toArray]); (try simp only [List.set_cons_succ]); (try simp only [List.set_cons_zero])
                  refine wpLexP_pure ?_ ?_ ?_ ?_
                  focus exact wanted_none rfl
                  rotate_left
                  focus (intro wq hq; go_simp; first | done | with_reducible rfl)
                  (simp only [Act.put, List.setIfInBounds_toArray]); (try simp only [List.set_cons_succ]); (try simp only [List.set_cons_zero])
                  refine wpLexP_pure ?_ ?_ ?_ ?_
                  focus exact wanted_none rfl
                  rotate_left
                  focus (intro wq hq; go_simp; first | done | with_reducible rfl)
                  (simp only [Act.put, List.setIfInBounds_toArray]); (try simp only [List.set_cons_succ]); (try simp only [List.set_cons_zero])
                  refine wpLexP_skip ?_ ?_
                  focus exact unwanted rfl rfl rfl
                  (simp only [Act.put, List.setIfInBounds_toArray]); (try simp only [List.set_cons_succ]); (try simp only [List.set_cons_zero])
                  refine wpLexP_skip ?_ ?_
                  focus exact unwanted rfl rfl rfl
                  (simp only [Act.put, List.setIfInBounds_toArray]); (try simp only [List.set_cons_succ]); (try simp only [List.set_cons_zero])
                  refine wpLexP_skip ?_ ?_
                  focus exact unwanted rfl rfl rfl
                  (simp only [Act.put, List.setIfInBounds_toArray]); (try simp only [List.set_cons_succ]); (try simp only [List.set_cons_zero])
                  refine wpLexP_skip ?_ ?_
                  focus exact unwanted rfl rfl rfl
                  (simp only [Act.put, List.setIfInBounds_toArray]); (try simp only [List.set_cons_succ]); (try simp only [List.set_cons_zero])
                  refine wpLexP_skip ?_ ?_
                  focus exact unwanted rfl rfl rfl
                  (simp only [Act.put, List.setIfInBounds_toArray]); (try simp only [List.set_cons_succ]); (try simp only [List.set_cons_zero])
                  refine wpLexP_pure ?_ ?_ ?_ ?_
                  focus exact wanted_none rfl
                  rotate_left
                  focus (intro wq hq; go_simp; first | done | with_reducible rfl)
                  (simp only [Act.put, List.setIfInBounds_toArray]); (try simp only [List.set_cons_succ]); (try simp only [List.set_cons_zero])
                  refine wpLexP_nil ?_
                  exact hT _ _ ⟨⟨_, _, _, _, _, _, _, _, _, _, _, _, _, _, _, _, _, _, _, _, _, _, _, _, _, rfl⟩, (by (repeat (first | with_reducible assumption | refine Since.alloc ?_ _ | refine Since.drew ?_ | refine Since.next ?_ (by with_reducible assumption)))), (not_may_back (V := V) hx (fun h => by have h9 := hr.2 h; rw [e1] at h9; cases h9))⟩
                case true =>
                  try simp only [e1]
                  refine wpLexP_pure ?_ ?_ ?_ ?_
                  focus exact wanted_none rfl
                  rotate_left
                  focus (intro wq hq; go_simp; first | done | with_reducible rfl)
                  (simp only [Act.put, List.setIfInBounds_toArray]); (try simp only [List.set_cons_succ]); (try simp only [List.set_cons_zero])
                  refine wpLexP_pure ?_ ?_ ?_ ?_
                  focus exact wanted_none rfl
                  rotate_left
                  focus (intro wq hq; go_simp; first | done | with_reducible rfl)
                  (simp only [Act.put, List.setIfInBounds_toArray]); (try simp only [List.set_cons_succ]); (try simp only [List.set_cons_zero])
                  refine wpLexP_pure ?_ ?_ ?_ ?_
                  focus exact wanted_yes rfl rfl
                  rotate_left
                  focus (intro wq hq; go_simp; first | done | with_reducible rfl)
                  (simp only [Act.put, List.setIfInBounds_toArray]); (try simp only [List.set_cons_succ]); (try simp only [List.set_cons_zero])
                  refine wpLexP_pure ?_ ?_ ?_ ?_
                  focus exact wanted_yes rfl rfl
                  rotate_left
                  focus (intro wq hq; go_simp; first | done | with_reducible rfl)
                  (simp only [Act.put, List.setIfInBounds_toArray]); (try simp only [List.set_cons_succ]); (try simp only [List.set_cons_zero])
                  cases e5 : decide ((0 : Int) < (k : Int) + 1)
                  case false =>
                    (exfalso; revert e5; first | (simp; done) | (simp; omega))
                  case true =>
                    try simp only [e5]
                    refine wpLexP_pure ?_ ?_ ?_ ?_
                    focus exact wanted_yes rfl rfl
                    rotate_left
                    focus (intro wq hq; go_simp; first | done | with_reducible rfl)
                    (simp only [Act.put, List.setIfInBounds_toArray]); (try simp only [List.set_cons_succ]); (try simp only [List.set_cons_zero])
                    refine wpLexP_pure ?_ ?_ ?_ ?_
                    focus exact wanted_yes rfl rfl
                    rotate_left
                    focus (intro wq hq; go_simp; first | done | with_reducible rfl)
                    (simp only [Act.put, List.setIfInBounds_toArray]); (try simp only [List.set_cons_succ]); (try simp only [List.set_cons_zero])
                    refine wpLexP_pure ?_ ?_ ?_ ?_
                    focus exact wanted_yes rfl rfl
                    rotate_left
                    focus (intro wq hq; go_simp; first | done | with_reducible rfl)
                    (simp only [Act.put, List.setIfInBounds_toArray]); (try simp only [List.set_cons_succ]); (try simp only [List.set_cons_zero])
                    refine wpLexP_pure ?_ ?_ ?_ ?_
                    focus exact wanted_yes rfl rfl
                    rotate_left
                    focus (intro wq hq; go_simp; first | done | with_reducible rfl)
                    (simp only [Act.put, List.setIfInBounds_toArray]); (try simp only [List.set_cons_succ]); (try simp only [List.set_cons_zero])
                    refine wpLexP_pure ?_ ?_ ?_ ?_
                    focus exact wanted_yes rfl rfl
                    rotate_left
                    focus (intro wq hq; go_simp; first | done | with_reducible rfl)
                    (simp only [Act.put, List.setIfInBounds_toArray]); (try simp only [List.set_cons_succ]); (try simp only [List.set_cons_zero])
                    refine wpLexP_pure ?_ ?_ ?_ ?_
                    focus exact wanted_yes rfl rfl
                    rotate_left
                    focus (intro wq hq; go_simp; first | done | with_reducible rfl)
                    (simp only [Act.put, List.setIfInBounds_toArray]); (try simp only [List.set_cons_succ]); (try simp only [List.set_cons_zero])
                    refine wpLexP_pure ?_ ?_ ?_ ?_
                    focus exact wanted_yes rfl rfl
                    rotate_left
                    focus (intro wq hq; go_simp; first | done | with_reducible rfl)
                    (simp only [Act.put, List.setIfInBounds_toArray]); (try simp only [List.set_cons_succ]); (try simp only [List.set_cons_zero])
                    refine wpLexP_pure ?_ ?_ ?_ ?_
                    focus exact wanted_yes rfl rfl
                    rotate_left
                    focus (intro wq hq; go_simp; first | done | with_reducible rfl)
                    (simp only [Act.put, List.setIfInBounds_toArray]); (try simp only [List.set_cons_succ]); (try simp only [List.set_cons_zero])
                    refine wpLexP_pure ?_ ?_ ?_ ?_
                    focus exact wanted_yes rfl rfl
                    rotate_left
                    focus (intro wq hq; go_simp; first | done | with_reducible rfl)
                    (simp only [Act.put, List.setIfInBounds_toArray]); (try simp only [List.set_cons_succ]); (try simp only [List.set_cons_zero])
                    refine wpLexP_pure ?_ ?_ ?_ ?_
                    focus exact wanted_yes rfl rfl
                    rotate_left
                    focus (intro wq hq; go_simp; first | done | with_reducible rfl)
                    (simp only [Act.put, List.setIfInBounds_toArray]); (try simp only [List.set_cons_succ]); (try simp only [List.set_cons_zero])
                    refine wpLexP_pure ?_ ?_ ?_ ?_
                    focus exact wanted_yes rfl rfl
                    rotate_left
                    focus (intro wq hq; go_simp; first | done | with_reducible rfl)
                    (simp only [Act.put, List.setIfInBounds_toArray]); (try simp only [List.set_cons_succ]); (try simp only [List.set_cons_zero])
                    cases e15 : decide (x.1 ≤ y.1)
                    case false =>
                      try simp only [e15]
                      refine wpLexP_pure ?_ ?_ ?_ ?_
                      focus exact wanted_yes rfl rfl
                      rotate_left
                      focus (intro wq hq; go_simp; first | done | with_reducible rfl)
                      (simp only [Act.put, List.setIfInBounds_toArray]); (try simp only [List.set_cons_succ]); (try simp only [List.set_cons_zero])
                      refine wpLexP_pure ?_ ?_ ?_ ?_
                      focus exact wanted_none rfl
                      rotate_left
                      focus (intro wq hq; go_simp; first | done | with_reducible rfl)
                      (simp only [Act.put, List.setIfInBounds_toArray]); (try simp only [List.set_cons_succ]); (try simp only [List.set_cons_zero])
                      refine wpLexP_pure ?_ ?_ ?_ ?_
                      focus exact wanted_none rfl
                      rotate_left
                      focus (intro wq hq; go_simp; first | done | with_reducible rfl)
                      (simp only [Act.put, List.setIfInBounds_toArray]); (try simp only [List.set_cons_succ]); (try simp only [List.set_cons_zero])
                      refine wpLexP_pure ?_ ?_ ?_ ?_
                      focus exact wanted_yes rfl rfl
                      rotate_left
                      focus (intro wq hq; go_simp; first | done | with_reducible rfl)
                      (simp only [Act.put, List.setIfInBounds_toArray]); (try simp only [List.set_cons_succ]); (try simp only [List.set_cons_zero])
                      refine wpLexP_pure ?_ ?_ ?_ ?_
                      focus exact wanted_yes rfl rfl
                      rotate_left
                      focus (intro wq hq; go_simp; first | done | with_reducible rfl)
                      (simp only [Act.put, List.setIfInBounds_toArray]); (try simp only [List.set_cons_succ]); (try simp only [List.set_cons_zero])
                      refine wpLexP_pure ?_ ?_ ?_ ?_
                      focus exact wanted_yes rfl rfl
                      rotate_left
                      focus (intro wq hq; go_simp; first | done | with_reducible rfl)
                      (simp only [Act.put, List.setIfInBounds_toArray]); (try simp only [List.set_cons_succ]); (try simp only [List.set_cons_zero])
                      refine wpLexP_solo ?_ (fun K hK => ?_)
                      focus exact wanted_yes rfl rfl
                      go_simp
                      go_at_call 75
                      refine (vipAt_any _ _ _ _ _ _ hlv (hrowD _ (by (repeat (first | with_reducible assumption | refine Since.alloc ?_ _ | refine Since.drew ?_ | refine Since.next ?_ (by with_reducible assumption)))))).mono ?_
                      rintro _ w2 ⟨i2, rfl, hi2, hb2⟩
                      refine hK.out _ _ ?_ ?_
                      focus (repeat (first | with_reducible assumption | refine Since.alloc ?_ _ | refine Since.drew ?_ | refine Since.next ?_ (by with_reducible assumption)))
                      clear hK K
                      try (simp only [Act.put, List.setIfInBounds_toArray]); (try simp only [List.set_cons_succ]); (try simp only [List.set_cons_zero])
                      refine wpLexP_pure ?_ ?_ ?_ ?_
                      focus exact wanted_yes rfl rfl
                      rotate_left
                      focus (intro wq hq; go_simp; first | done | with_reducible rfl)
                      (simp only [Act.put, List.setIfInBounds_toArray]); (try simp only [List.set_cons_succ]); (try simp only [List.set_cons_zero])
                      refine wpLexP_pure ?_ ?_ ?_ ?_
                      focus exact wanted_none rfl
                      rotate_left
                      focus (intro wq hq; go_simp; first | done | with_reducible rfl)
                      (simp only [Act.put, List.setIfInBounds_toArray]); (try simp only [List.set_cons_succ]); (try simp only [List.set_cons_zero])
                      refine wpLexP_nil ?_
                      by_cases heq : i2 < 0
                      · have hne : decide (i2 < 0) = true := by simpa using heq
                        (try simp only [hne])
                        exact hT _ _ ⟨⟨_, _, _, _, _, _, _, _, _, _, _, _, _, _, _, _, _, _, _, _, _, _, _, _, _, rfl⟩, (by (repeat (first | with_reducible assumption | refine Since.alloc ?_ _ | refine Since.drew ?_ | refine Since.next ?_ (by with_reducible assumption)))), (not_may_none hx ((firstAt_neg hi2).1 heq))⟩
                      · have hne : decide (i2 < 0) = false := by simpa using heq
                        (try simp only [hne])
                        exact hF _ _ ⟨⟨_, _, _, _, _, _, _, _, _, _, _, _, _, _, _, _, _, _, _, _, _, _, _, _, _, rfl⟩, (by (repeat (first | with_reducible assumption | refine Since.alloc ?_ _ | refine Since.drew ?_ | refine Since.next ?_ (by with_reducible assumption)))), hr.1 e1, (fun z _ hz => by rw [Nat.add_sub_cancel, hy] at hz; injection hz with hz; subst hz; have := of_decide_eq_false e15; omega), Classical.byContradiction fun hn => heq ((firstAt_neg hi2).2 (fun v hv he => hn ⟨v, hv, he⟩))⟩
                    case true =>
                      try simp only [e15]
                      refine wpLexP_pure ?_ ?_ ?_ ?_
                      focus exact wanted_yes rfl rfl
                      rotate_left
                      focus (intro wq hq; go_simp; first | done | with_reducible rfl)
                      (simp only [Act.put, List.setIfInBounds_toArray]); (try simp only [List.set_cons_succ]); (try simp only [List.set_cons_zero])
                      refine wpLexP_pure ?_ ?_ ?_ ?_
                      focus exact wanted_none rfl
                      rotate_left
                      focus (intro wq hq; go_simp; first | done | with_reducible rfl)
                      (simp only [Act.put, List.setIfInBounds_toArray]); (try simp only [List.set_cons_succ]); (try simp only [List.set_cons_zero])
                      refine wpLexP_pure ?_ ?_ ?_ ?_
                      focus exact wanted_none rfl
                      rotate_left
                      focus (intro wq hq; go_simp; first | done | with_reducible rfl)
                      (simp only [Act.put, List.setIfInBounds_toArray]); (try simp only [List.set_cons_succ]); (try simp only [List.set_cons_zero])
                      refine wpLexP_skip ?_ ?_
                      focus exact unwanted rfl rfl rfl
                      (simp only [Act.put, List.setIfInBounds_toArray]); (try simp only [List.set_cons_succ]); (try simp only [List.set_cons_zero])
                      refine wpLexP_skip ?_ ?_
                      focus exact unwanted rfl rfl rfl
                      (simp only [Act.put, List.setIfInBounds_toArray]); (try simp only [List.set_cons_succ]); (try simp only [List.set_cons_zero])
                      refine wpLexP_skip ?_ ?_
                      focus exact unwanted rfl rfl rfl
                      (simp only [Act.put, List.setIfInBounds_toArray]); (try simp only [List.set_cons_succ]); (try simp only [List.set_cons_zero])
                      refine wpLexP_skip ?_ ?_
                      focus exact unwanted rfl rfl rfl
                      (simp only [Act.put, List.setIfInBounds_toArray]); (try simp only [List.set_cons_succ]); (try simp only [List.set_cons_zero])
                      refine wpLexP_skip ?_ ?_
                      focus exact unwanted rfl rfl rfl
                      (simp only [Act.put, List.setIfInBounds_toArray]); (try simp only [List.set_cons_succ]); (try simp only [List.set_cons_zero])
                      refine wpLexP_pure ?_ ?_ ?_ ?_
                      focus exact wanted_none rfl
                      rotate_left
                      focus (intro wq hq; go_simp; first | done | with_reducible rfl)
                      (simp only [Act.put, List.setIfInBounds_toArray]); (try simp only [List.set_cons_succ]); (try simp only [List.set_cons_zero])
                      refine wpLexP_nil ?_
                      exact hT _ _ ⟨⟨_, _, _, _, _, _, _, _, _, _, _, _, _, _, _, _, _, _, _, _, _, _, _, _, _, rfl⟩, (by (repeat (first | with_reducible assumption | refine Since.alloc ?_ _ | refine Since.drew ?_ | refine Since.next ?_ (by with_reducible assumption)))), (not_may_badj (V := V) hx hy (of_decide_eq_true e15))⟩
              · rintro a' w' ⟨⟨v72, v73, v74, v75, v76, v77, v78, v79, v80, v81, v82, v83, v84, v85, v86, v87, v88, v89, v90, v91, v92, v93, v94, v95, v96, rfl⟩, hS, hbad⟩
                simp only [List.take_succ_cons, List.take_zero, List.drop_succ_cons, List.drop_zero, List.drop_nil, List.cons_append, List.nil_append, List.append_nil]
                go_wp2_with fail
                go_ret
                exact AnsB.mk _ rfl (by simp [hbad]) ((Since.trans hw6 hS).below)
              · rintro a' w' ⟨⟨v72, v73, v74, v75, v76, v77, v78, v79, v80, v81, v82, v83, v84, v85, v86, v87, v88, v89, v90, v91, v92, v93, v94, v95, v96, rfl⟩, hS, hgood1, hgood2, hgood3⟩
                simp only [List.take_succ_cons, List.take_zero, List.drop_succ_cons, List.drop_zero, List.drop_nil, List.cons_append, List.nil_append, List.append_nil]
                go_wp2_with fail
                exact ⟨⟨k + 1 + 1, (by omega), (by go_num), Since.trans hw16 hS, backsTo_step hx hgood1 hgood2 hgood3 hok⟩, (by simp only [intOf]; omega)⟩

          · have hkb : k0 = B.length := by omega
            subst hkb
            go_wp2_with fail
            go_ret
            exact AnsB.mk _ rfl (by simp [may_all (by omega) (by omega) hok1 hok]) hbw.below
  · go_ret
    refine AnsB.mk _ rfl ?_ (below_alloc_first _ _)
    go_light
    simp [farmMay]; omega
end Go.Proofs.YtooaeccmkgockaaGreatDoor
