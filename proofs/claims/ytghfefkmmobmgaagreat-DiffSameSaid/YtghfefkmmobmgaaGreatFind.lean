/-
  slices.IndexFunc and ContainsFunc over rows of addresses and of backends; the program's and the reference's looking. Conditions: the row reads, the predicate's closure is a function that answers and changes nothing.
-/
import Derived.Test.YtghfefkmmobmgaaGreatFarm
namespace Go.Proofs.YtghfefkmmobmgaaGreat
open Go.RowKit

/-- Where the first one stands for which something is so. -/
def firstAt {α : Type} (q : α → Prop) (L : List α) (k : Int) : Prop :=
  (k = -1 ∧ ∀ x ∈ L, ¬ q x) ∨ ∃ (n : Nat) (x : α), k = (n : Int) ∧ L[n]? = some x ∧ q x ∧ ∀ (j : Nat) (u : α), j < n → L[j]? = some u → ¬ q u

theorem firstAt_neg {α : Type} {q : α → Prop} {L : List α} {k : Int} (h : firstAt q L k) : k < 0 ↔ ∀ x ∈ L, ¬ q x := by
  rcases h with ⟨rfl, h⟩ | ⟨n, x, rfl, h1, h2, h3⟩
  · exact ⟨fun _ => h, fun _ => by omega⟩
  · constructor
    · intro h; omega
    · intro h; exact absurd h2 (h x (List.mem_of_getElem? h1))

theorem none_yet {α : Type} {q : α → Prop} {L : List α} {k : Nat} (hk : L.length ≤ k) (h : ∀ j u, j < k → L[j]? = some u → ¬ q u) : firstAt q L (-1) :=
  .inl ⟨rfl, fun x hx => by
    obtain ⟨i, hi, rfl⟩ := List.mem_iff_getElem.1 hx
    exact h i _ (by omega) (List.getElem?_eq_getElem hi)⟩

theorem vip_cells {w : World} {p : Option Addr} {L : List VipD} (h : RowsAt w vipV 5 p L) {i : Nat} {v : VipD} (hi : L[i]? = some v) :
    ∃ b o, p = some ⟨b, o, none⟩ ∧ w.cell? ⟨b, o + i * 5, none⟩ = some (.int .i64 v.1) ∧ w.cell? ⟨b, o + i * 5 + 1, none⟩ = some (.int .u32 v.2.1) ∧ w.cell? ⟨b, o + i * 5 + 2, none⟩ = some (.int .u16 v.2.2.1) ∧
      w.cell? ⟨b, o + i * 5 + 3, none⟩ = some (.int .u8 v.2.2.2.1) ∧ w.cell? ⟨b, o + i * 5 + 4, none⟩ = some (.int .i64 v.2.2.2.2) := by
  obtain ⟨b, o, hp, hc⟩ := h i v hi
  exact ⟨b, o, hp, hc 0 _ rfl, hc 1 _ rfl, hc 2 _ rfl, hc 3 _ rfl, hc 4 _ rfl⟩

theorem back_cells {w : World} {p : Option Addr} {L : List BackD} (h : RowsAt w backV 6 p L) {i : Nat} {v : BackD} (hi : L[i]? = some v) :
    ∃ b o, p = some ⟨b, o, none⟩ ∧ w.cell? ⟨b, o + i * 6, none⟩ = some (.int .i64 v.1) ∧ w.cell? ⟨b, o + i * 6 + 1, none⟩ = some (.int .i64 v.2.1) ∧ w.cell? ⟨b, o + i * 6 + 2, none⟩ = some (.int .u32 v.2.2.1) ∧
      w.cell? ⟨b, o + i * 6 + 3, none⟩ = some (.int .i64 v.2.2.2.1) ∧ w.cell? ⟨b, o + i * 6 + 4, none⟩ = some (.int .i64 v.2.2.2.2.1) ∧ w.cell? ⟨b, o + i * 6 + 5, none⟩ = some (.bool v.2.2.2.2.2) := by
  obtain ⟨b, o, hp, hc⟩ := h i v hi
  exact ⟨b, o, hp, hc 0 _ rfl, hc 1 _ rfl, hc 2 _ rfl, hc 3 _ rfl, hc 4 _ rfl, hc 5 _ rfl⟩

/-- What answers a number, in memory of its own. -/
def AnsI (w : World) (p : Int → Prop) (e : Ending) (w' : World) : Prop := ∃ k : Int, e = .returned (.int .i64 k) ∧ p k ∧ Below w.heap.size w w'
theorem AnsI.mk {w w' : World} {p : Int → Prop} {e : Ending} (k : Int) (h : e = .returned (.int .i64 k)) (hp : p k) (hb : Below w.heap.size w w') : AnsI w p e w' := ⟨k, h, hp, hb⟩

/-- A predicate's closure. -/
def Asks {α : Type} (enc : α → List Value) (g : FuncId) (cap : Value) (q : α → Prop) (w : World) (L : List α) : Prop :=
  ∀ x ∈ L, ∀ w', Below w.heap.size w w' → Calls Tryz.prog g #[.agg (enc x).toArray, cap] w' (AnsB w' (q x))

theorem Asks.at {α : Type} {enc : α → List Value} {g : FuncId} {cap : Value} {q : α → Prop} {w : World} {L : List α} (h : Asks enc g cap q w L) {k : Nat} {x : α} (hx : L[k]? = some x) {w' : World} (hb : Below w.heap.size w w') :
    Calls Tryz.prog g #[.agg (enc x).toArray, cap] w' (AnsB w' (q x)) := h x (List.mem_of_getElem? hx) w' hb


set_option maxHeartbeats 400000 in
theorem index_vip1 (p : Option Addr) (c : Nat) (cap : Value) (q : VipD → Prop) (L : List VipD) (w : World) (hl : L.length ≤ 100) (hL : RowsAt w vipV 5 p L) (hq : Asks vipV 49 cap q w L) :
    Calls Tryz.prog 46 #[.slice p L.length c, .func (.func 49) #[] #[cap]] w (AnsI w (firstAt q L)) := by
  go_enter Tryz.func46, Tryz.ntmps46
  go_wp2
  go_loopw [4, 8] (fun _ i wr => ∃ k : Nat, k ≤ L.length ∧ i = .int .i64 k ∧ Below w.heap.size w wr ∧ ∀ (j : Nat) (u : VipD), j < k → L[j]? = some u → ¬ q u) (fun _ i => fun _ => L.length - (intOf i).toNat)
  case atStart => exact ⟨0, Nat.zero_le _, rfl, Below.refl _ _, fun j u h => by omega⟩
  case round =>
    obtain ⟨k, hk, rfl, hb, hno⟩ := hrel
    by_cases hkl : k < L.length
    · have hx : L[k]? = some L[k] := List.getElem?_eq_getElem hkl
      obtain ⟨b, o, rfl, h0, h1, h2, h3, h4⟩ := vip_cells (hL.below hb) hx
      have hcall := hq.at hx hb
      generalize L[k] = x at *
      go_wp2_with (first | (go_at_call 49; refine hcall.mono ?_; rintro _ w1 ⟨r, rfl, hr, hb1⟩))
      all_goals first
        | (have hr1 : r = true := (by assumption); have hqx := hr.1 hr1; go_ret; exact AnsI.mk _ rfl (.inr ⟨k, x, rfl, hx, hqx, hno⟩) (below_step hb hb1))
        | (have hr0 : r = false := (by assumption)
           have hnq : ¬ q x := fun h => (by have h2 := hr.2 h; rw [hr0] at h2; cases h2)
           refine ⟨⟨k + 1, (by omega), (by go_num), below_step hb hb1, fun j u hj hu => ?_⟩, (by simp only [intOf]; omega)⟩
           rcases Nat.lt_succ_iff_lt_or_eq.1 hj with h | rfl
           · exact hno j u h hu
           · rw [hx] at hu; injection hu with hu; subst hu; exact hnq)
    · go_wp2
      go_ret
      exact AnsI.mk _ rfl (none_yet (by omega) hno) hb

set_option maxHeartbeats 400000 in
theorem index_right1 (p : Option Addr) (c : Nat) (cap : Value) (q : VipD → Prop) (L : List VipD) (w : World) (hl : L.length ≤ 100) (hL : RowsAt w vipV 5 p L) (hq : Asks vipV 28 cap q w L) :
    Calls Tryz.prog 46 #[.slice p L.length c, .func (.func 28) #[] #[cap]] w (AnsI w (firstAt q L)) := by
  go_enter Tryz.func46, Tryz.ntmps46
  go_wp2
  go_loopw [4, 8] (fun _ i wr => ∃ k : Nat, k ≤ L.length ∧ i = .int .i64 k ∧ Below w.heap.size w wr ∧ ∀ (j : Nat) (u : VipD), j < k → L[j]? = some u → ¬ q u) (fun _ i => fun _ => L.length - (intOf i).toNat)
  case atStart => exact ⟨0, Nat.zero_le _, rfl, Below.refl _ _, fun j u h => by omega⟩
  case round =>
    obtain ⟨k, hk, rfl, hb, hno⟩ := hrel
    by_cases hkl : k < L.length
    · have hx : L[k]? = some L[k] := List.getElem?_eq_getElem hkl
      obtain ⟨b, o, rfl, h0, h1, h2, h3, h4⟩ := vip_cells (hL.below hb) hx
      have hcall := hq.at hx hb
      generalize L[k] = x at *
      go_wp2_with (first | (go_at_call 28; refine hcall.mono ?_; rintro _ w1 ⟨r, rfl, hr, hb1⟩))
      all_goals first
        | (have hr1 : r = true := (by assumption); have hqx := hr.1 hr1; go_ret; exact AnsI.mk _ rfl (.inr ⟨k, x, rfl, hx, hqx, hno⟩) (below_step hb hb1))
        | (have hr0 : r = false := (by assumption)
           have hnq : ¬ q x := fun h => (by have h2 := hr.2 h; rw [hr0] at h2; cases h2)
           refine ⟨⟨k + 1, (by omega), (by go_num), below_step hb hb1, fun j u hj hu => ?_⟩, (by simp only [intOf]; omega)⟩
           rcases Nat.lt_succ_iff_lt_or_eq.1 hj with h | rfl
           · exact hno j u h hu
           · rw [hx] at hu; injection hu with hu; subst hu; exact hnq)
    · go_wp2
      go_ret
      exact AnsI.mk _ rfl (none_yet (by omega) hno) hb

theorem contains_right1 (p : Option Addr) (c : Nat) (cap : Value) (q : VipD → Prop) (L : List VipD) (w : World) (hl : L.length ≤ 100) (hL : RowsAt w vipV 5 p L) (hq : Asks vipV 28 cap q w L) :
    Calls Tryz.prog 27 #[.slice p L.length c, .func (.func 28) #[] #[cap]] w (AnsB w (∃ x ∈ L, q x)) := by
  go_enter Tryz.func27, Tryz.ntmps27
  go_wp2_with (first | (go_at_call 46; refine (index_right1 p c cap q L _ hl hL hq).mono ?_; rintro _ w1 ⟨i, rfl, hi, hb1⟩))
  go_ret
  refine AnsB.mk _ rfl ?_ hb1
  have := firstAt_neg hi
  go_light
  grind

set_option maxHeartbeats 400000 in
theorem index_addvip1 (p : Option Addr) (c : Nat) (cap : Value) (q : VipD → Prop) (L : List VipD) (w : World) (hl : L.length ≤ 100) (hL : RowsAt w vipV 5 p L) (hq : Asks vipV 61 cap q w L) :
    Calls Tryz.prog 46 #[.slice p L.length c, .func (.func 61) #[] #[cap]] w (AnsI w (firstAt q L)) := by
  go_enter Tryz.func46, Tryz.ntmps46
  go_wp2
  go_loopw [4, 8] (fun _ i wr => ∃ k : Nat, k ≤ L.length ∧ i = .int .i64 k ∧ Below w.heap.size w wr ∧ ∀ (j : Nat) (u : VipD), j < k → L[j]? = some u → ¬ q u) (fun _ i => fun _ => L.length - (intOf i).toNat)
  case atStart => exact ⟨0, Nat.zero_le _, rfl, Below.refl _ _, fun j u h => by omega⟩
  case round =>
    obtain ⟨k, hk, rfl, hb, hno⟩ := hrel
    by_cases hkl : k < L.length
    · have hx : L[k]? = some L[k] := List.getElem?_eq_getElem hkl
      obtain ⟨b, o, rfl, h0, h1, h2, h3, h4⟩ := vip_cells (hL.below hb) hx
      have hcall := hq.at hx hb
      generalize L[k] = x at *
      go_wp2_with (first | (go_at_call 61; refine hcall.mono ?_; rintro _ w1 ⟨r, rfl, hr, hb1⟩))
      all_goals first
        | (have hr1 : r = true := (by assumption); have hqx := hr.1 hr1; go_ret; exact AnsI.mk _ rfl (.inr ⟨k, x, rfl, hx, hqx, hno⟩) (below_step hb hb1))
        | (have hr0 : r = false := (by assumption)
           have hnq : ¬ q x := fun h => (by have h2 := hr.2 h; rw [hr0] at h2; cases h2)
           refine ⟨⟨k + 1, (by omega), (by go_num), below_step hb hb1, fun j u hj hu => ?_⟩, (by simp only [intOf]; omega)⟩
           rcases Nat.lt_succ_iff_lt_or_eq.1 hj with h | rfl
           · exact hno j u h hu
           · rw [hx] at hu; injection hu with hu; subst hu; exact hnq)
    · go_wp2
      go_ret
      exact AnsI.mk _ rfl (none_yet (by omega) hno) hb

theorem contains_addvip1 (p : Option Addr) (c : Nat) (cap : Value) (q : VipD → Prop) (L : List VipD) (w : World) (hl : L.length ≤ 100) (hL : RowsAt w vipV 5 p L) (hq : Asks vipV 61 cap q w L) :
    Calls Tryz.prog 27 #[.slice p L.length c, .func (.func 61) #[] #[cap]] w (AnsB w (∃ x ∈ L, q x)) := by
  go_enter Tryz.func27, Tryz.ntmps27
  go_wp2_with (first | (go_at_call 46; refine (index_addvip1 p c cap q L _ hl hL hq).mono ?_; rintro _ w1 ⟨i, rfl, hi, hb1⟩))
  go_ret
  refine AnsB.mk _ rfl ?_ hb1
  have := firstAt_neg hi
  go_light
  grind

set_option maxHeartbeats 400000 in
theorem index_backend1 (p : Option Addr) (c : Nat) (cap : Value) (q : BackD → Prop) (L : List BackD) (w : World) (hl : L.length ≤ 100) (hL : RowsAt w backV 6 p L) (hq : Asks backV 76 cap q w L) :
    Calls Tryz.prog 48 #[.slice p L.length c, .func (.func 76) #[] #[cap]] w (AnsI w (firstAt q L)) := by
  go_enter Tryz.func48, Tryz.ntmps48
  go_wp2
  go_loopw [4, 8] (fun _ i wr => ∃ k : Nat, k ≤ L.length ∧ i = .int .i64 k ∧ Below w.heap.size w wr ∧ ∀ (j : Nat) (u : BackD), j < k → L[j]? = some u → ¬ q u) (fun _ i => fun _ => L.length - (intOf i).toNat)
  case atStart => exact ⟨0, Nat.zero_le _, rfl, Below.refl _ _, fun j u h => by omega⟩
  case round =>
    obtain ⟨k, hk, rfl, hb, hno⟩ := hrel
    by_cases hkl : k < L.length
    · have hx : L[k]? = some L[k] := List.getElem?_eq_getElem hkl
      obtain ⟨b, o, rfl, h0, h1, h2, h3, h4, h5⟩ := back_cells (hL.below hb) hx
      have hcall := hq.at hx hb
      generalize L[k] = x at *
      go_wp2_with (first | (go_at_call 76; refine hcall.mono ?_; rintro _ w1 ⟨r, rfl, hr, hb1⟩))
      all_goals first
        | (have hr1 : r = true := (by assumption); have hqx := hr.1 hr1; go_ret; exact AnsI.mk _ rfl (.inr ⟨k, x, rfl, hx, hqx, hno⟩) (below_step hb hb1))
        | (have hr0 : r = false := (by assumption)
           have hnq : ¬ q x := fun h => (by have h2 := hr.2 h; rw [hr0] at h2; cases h2)
           refine ⟨⟨k + 1, (by omega), (by go_num), below_step hb hb1, fun j u hj hu => ?_⟩, (by simp only [intOf]; omega)⟩
           rcases Nat.lt_succ_iff_lt_or_eq.1 hj with h | rfl
           · exact hno j u h hu
           · rw [hx] at hu; injection hu with hu; subst hu; exact hnq)
    · go_wp2
      go_ret
      exact AnsI.mk _ rfl (none_yet (by omega) hno) hb

set_option maxHeartbeats 400000 in
theorem index_right2 (p : Option Addr) (c : Nat) (cap : Value) (q : BackD → Prop) (L : List BackD) (w : World) (hl : L.length ≤ 100) (hL : RowsAt w backV 6 p L) (hq : Asks backV 32 cap q w L) :
    Calls Tryz.prog 48 #[.slice p L.length c, .func (.func 32) #[] #[cap]] w (AnsI w (firstAt q L)) := by
  go_enter Tryz.func48, Tryz.ntmps48
  go_wp2
  go_loopw [4, 8] (fun _ i wr => ∃ k : Nat, k ≤ L.length ∧ i = .int .i64 k ∧ Below w.heap.size w wr ∧ ∀ (j : Nat) (u : BackD), j < k → L[j]? = some u → ¬ q u) (fun _ i => fun _ => L.length - (intOf i).toNat)
  case atStart => exact ⟨0, Nat.zero_le _, rfl, Below.refl _ _, fun j u h => by omega⟩
  case round =>
    obtain ⟨k, hk, rfl, hb, hno⟩ := hrel
    by_cases hkl : k < L.length
    · have hx : L[k]? = some L[k] := List.getElem?_eq_getElem hkl
      obtain ⟨b, o, rfl, h0, h1, h2, h3, h4, h5⟩ := back_cells (hL.below hb) hx
      have hcall := hq.at hx hb
      generalize L[k] = x at *
      go_wp2_with (first | (go_at_call 32; refine hcall.mono ?_; rintro _ w1 ⟨r, rfl, hr, hb1⟩))
      all_goals first
        | (have hr1 : r = true := (by assumption); have hqx := hr.1 hr1; go_ret; exact AnsI.mk _ rfl (.inr ⟨k, x, rfl, hx, hqx, hno⟩) (below_step hb hb1))
        | (have hr0 : r = false := (by assumption)
           have hnq : ¬ q x := fun h => (by have h2 := hr.2 h; rw [hr0] at h2; cases h2)
           refine ⟨⟨k + 1, (by omega), (by go_num), below_step hb hb1, fun j u hj hu => ?_⟩, (by simp only [intOf]; omega)⟩
           rcases Nat.lt_succ_iff_lt_or_eq.1 hj with h | rfl
           · exact hno j u h hu
           · rw [hx] at hu; injection hu with hu; subst hu; exact hnq)
    · go_wp2
      go_ret
      exact AnsI.mk _ rfl (none_yet (by omega) hno) hb

theorem contains_right2 (p : Option Addr) (c : Nat) (cap : Value) (q : BackD → Prop) (L : List BackD) (w : World) (hl : L.length ≤ 100) (hL : RowsAt w backV 6 p L) (hq : Asks backV 32 cap q w L) :
    Calls Tryz.prog 31 #[.slice p L.length c, .func (.func 32) #[] #[cap]] w (AnsB w (∃ x ∈ L, q x)) := by
  go_enter Tryz.func31, Tryz.ntmps31
  go_wp2_with (first | (go_at_call 48; refine (index_right2 p c cap q L _ hl hL hq).mono ?_; rintro _ w1 ⟨i, rfl, hi, hb1⟩))
  go_ret
  refine AnsB.mk _ rfl ?_ hb1
  have := firstAt_neg hi
  go_light
  grind
end Go.Proofs.YtghfefkmmobmgaaGreat
