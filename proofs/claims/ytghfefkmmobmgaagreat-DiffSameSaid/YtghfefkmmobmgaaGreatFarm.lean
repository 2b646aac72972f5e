/-
  Farms in memory: addresses, backends and rows of them; which may be. No condition.
-/
import Derived.Test.YtghfefkmmobmgaaGreatRow
import Derived.Test.YtghfefkmmobmgaaGreatSpecial
import Derived.LoopTactic
import Derived.Handy
namespace Go.Proofs.YtghfefkmmobmgaaGreat
open Go.RowKit

/-- An address that is served: id, addr, port, proto, mode. -/
abbrev VipD := Int × Int × Int × Int × Int
/-- A backend: id, vip, addr, weight, life, up. -/
abbrev BackD := Int × Int × Int × Int × Int × Bool

def vipV (v : VipD) : List Value := [.int .i64 v.1, .int .u32 v.2.1, .int .u16 v.2.2.1, .int .u8 v.2.2.2.1, .int .i64 v.2.2.2.2]
def backV (b : BackD) : List Value := [.int .i64 b.1, .int .i64 b.2.1, .int .u32 b.2.2.1, .int .i64 b.2.2.2.1, .int .i64 b.2.2.2.2.1, .bool b.2.2.2.2.2]

def vipW (v : VipD) : Prop := 0 ≤ v.2.1 ∧ v.2.1 ≤ 4294967295 ∧ 0 ≤ v.2.2.1 ∧ v.2.2.1 ≤ 65535 ∧ 0 ≤ v.2.2.2.1 ∧ v.2.2.2.1 ≤ 255
def backW (b : BackD) : Prop := 0 ≤ b.2.2.1 ∧ b.2.2.1 ≤ 4294967295

/-- A row of things of k cells each. -/
def RowsAt {α : Type} (w : World) (enc : α → List Value) (k : Nat) (p : Option Addr) (L : List α) : Prop :=
  ∀ i x, L[i]? = some x → ∃ b o, p = some ⟨b, o, none⟩ ∧ ∀ j c, (enc x)[j]? = some c → w.cell? ⟨b, o + i * k + j, none⟩ = some c

theorem RowsAt.below {α : Type} {w w' : World} {enc : α → List Value} {k : Nat} {p : Option Addr} {L : List α} (h : RowsAt w enc k p L) (hb : Below w.heap.size w w') : RowsAt w' enc k p L := by
  intro i x hx
  obtain ⟨b, o, hp, hc⟩ := h i x hx
  refine ⟨b, o, hp, fun j c hj => ?_⟩
  have h1 := hc j c hj
  rw [hb.cell (World.block_lt_of_cell? w _ h1)]
  exact h1

theorem RowsAt.take {α : Type} {w : World} {enc : α → List Value} {k : Nat} {p : Option Addr} {L : List α} (h : RowsAt w enc k p L) (n : Nat) : RowsAt w enc k p (L.take n) := by
  intro i x hx
  rw [List.getElem?_take] at hx
  split at hx
  · exact h i x hx
  · cases hx

/-- Which addresses may be served. -/
def vipMay (v : VipD) : Prop := 1 ≤ v.1 ∧ v.1 ≤ 99 ∧ specB v.2.1 = false ∧ 0 < v.2.2.1 ∧ (v.2.2.2.2 = 1 ∧ (v.2.2.2.1 = 6 ∨ v.2.2.2.1 = 17) ∨ v.2.2.2.2 = 2 ∧ v.2.2.2.1 = 6)
def backMay (b : BackD) : Prop := 1 ≤ b.1 ∧ b.1 ≤ 999 ∧ specB b.2.2.1 = false ∧ 1 ≤ b.2.2.2.1 ∧ b.2.2.2.1 ≤ 8 ∧ (b.2.2.2.2.1 = 1 ∨ b.2.2.2.2.1 = 2)
def vipLike (v u : VipD) : Prop := v.2.1 = u.2.1 ∧ v.2.2.1 = u.2.2.1 ∧ v.2.2.2.1 = u.2.2.2.1

/-- Which farms may be. -/
def farmMay (V : List VipD) (B : List BackD) : Prop :=
  V.length ≤ 4 ∧ B.length ≤ 16 ∧ (∀ (i : Nat) (v : VipD), V[i]? = some v → vipMay v ∧ ∀ (j : Nat) (u : VipD), j < i → V[j]? = some u → u.1 < v.1 ∧ ¬ vipLike v u) ∧
    ∀ (i : Nat) (b : BackD), B[i]? = some b → backMay b ∧ (∀ (j : Nat) (u : BackD), j < i → B[j]? = some u → u.1 < b.1) ∧ ∃ v ∈ V, v.1 = b.2.1

/-- What tells whether something is so, in memory of its own. -/
def AnsB (w : World) (p : Prop) (e : Ending) (w' : World) : Prop := ∃ r : Bool, e = .returned (.bool r) ∧ (r = true ↔ p) ∧ Below w.heap.size w w'
theorem AnsB.mk {w w' : World} {p : Prop} {e : Ending} (r : Bool) (h : e = .returned (.bool r)) (hp : r = true ↔ p) (hb : Below w.heap.size w w') : AnsB w p e w' := ⟨r, h, hp, hb⟩

theorem mayVip_any (v : VipD) (hv : vipW v) (w : World) : Calls Tryz.prog 30 #[.agg (vipV v).toArray] w (AnsB w (vipMay v)) := by
  obtain ⟨id, addr, port, proto, mode⟩ := v
  obtain ⟨h0, h1, h2, h3, h4, h5⟩ := hv
  simp only [vipV]
  go_enter Tryz.func30, Tryz.ntmps30
  go_wp2_with (first | (go_at_call 47; refine (special_any addr _ h0 h1).mono ?_; rintro e w' ⟨rfl, rfl⟩))
  all_goals go_ret
  all_goals refine AnsB.mk _ rfl ?_ (by first | exact below_alloc_first _ _ | exact (below_alloc_first _ _).alloc (by simp) _)
  all_goals go_light
  all_goals grind [vipMay, backMay, vipLike]

theorem mayBackend_any (b : BackD) (hb : backW b) (w : World) : Calls Tryz.prog 33 #[.agg (backV b).toArray] w (AnsB w (backMay b)) := by
  obtain ⟨id, vip, addr, weight, life, up⟩ := b
  obtain ⟨h0, h1⟩ := hb
  simp only [backV]
  go_enter Tryz.func33, Tryz.ntmps33
  go_wp2_with (first | (go_at_call 47; refine (special_any addr _ h0 h1).mono ?_; rintro e w' ⟨rfl, rfl⟩))
  all_goals go_ret
  all_goals refine AnsB.mk _ rfl ?_ (by first | exact below_alloc_first _ _ | exact (below_alloc_first _ _).alloc (by simp) _)
  all_goals go_light
  all_goals grind [vipMay, backMay, vipLike]

theorem goodVip_any (v : VipD) (hv : vipW v) (w : World) : Calls Tryz.prog 40 #[.agg (vipV v).toArray] w (AnsB w (vipMay v)) := by
  obtain ⟨id, addr, port, proto, mode⟩ := v
  obtain ⟨h0, h1, h2, h3, h4, h5⟩ := hv
  simp only [vipV]
  go_enter Tryz.func40, Tryz.ntmps40
  go_wp2_with (first | (go_at_call 60; refine (rspecial_any addr _ h0 h1).mono ?_; rintro e w' ⟨rfl, rfl⟩))
  all_goals go_ret
  all_goals refine AnsB.mk _ rfl ?_ (by first | exact below_alloc_first _ _ | exact (below_alloc_first _ _).alloc (by simp) _)
  all_goals go_light
  all_goals grind [vipMay, backMay, vipLike]

theorem goodBackend_any (b : BackD) (hb : backW b) (w : World) : Calls Tryz.prog 43 #[.agg (backV b).toArray] w (AnsB w (backMay b)) := by
  obtain ⟨id, vip, addr, weight, life, up⟩ := b
  obtain ⟨h0, h1⟩ := hb
  simp only [backV]
  go_enter Tryz.func43, Tryz.ntmps43
  go_wp2_with (first | (go_at_call 60; refine (rspecial_any addr _ h0 h1).mono ?_; rintro e w' ⟨rfl, rfl⟩))
  all_goals go_ret
  all_goals refine AnsB.mk _ rfl ?_ (by first | exact below_alloc_first _ _ | exact (below_alloc_first _ _).alloc (by simp) _)
  all_goals go_light
  all_goals grind [vipMay, backMay, vipLike]

theorem like_any (v u : VipD) (w : World) : Calls Tryz.prog 29 #[.agg (vipV v).toArray, .agg (vipV u).toArray] w (AnsB w (vipLike v u)) := by
  obtain ⟨id, addr, port, proto, mode⟩ := v
  obtain ⟨id2, addr2, port2, proto2, mode2⟩ := u
  simp only [vipV]
  go_enter Tryz.func29, Tryz.ntmps29
  go_wp2
  all_goals go_ret
  all_goals refine AnsB.mk _ rfl ?_ (by first | exact below_alloc_first _ _ | exact (below_alloc_first _ _).alloc (by simp) _)
  all_goals go_light
  all_goals grind [vipMay, backMay, vipLike]
end Go.Proofs.YtghfefkmmobmgaaGreat
