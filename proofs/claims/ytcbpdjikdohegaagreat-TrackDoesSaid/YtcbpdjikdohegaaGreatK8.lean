/-
  A place of a later row is poured. Conditions: ticks not too great, rows not too long.
  Rows of alarms sorted by their numbers. Conditions: rows not too long.
  The wheel goes on by one tick: words. No condition.
-/
import Derived.Test.YtcbpdjikdohegaaGreatK6
import Derived.Test.YtcbpdjikdohegaaGreatK7
import Derived.Test.YtcbpdjikdohegaaGreatK1
import Derived.Handy
import Derived.Shelf.SlSortCmp.NoneTotal
namespace Go.Proofs.YtcbpdjikdohegaaGreat.V
open Go.RowKit
attribute [local irreducible] Fn FnN OpVC Ob RowFn

theorem pour_vc (F : List (Nat × D)) (now : Int) (R : Nat → List Al) (T U : List Al) (M : List ME) (c : Nat) (o2 : LO) (G : List Nat × Nat) (r p : Int) (k : Nat) (hk : (k : Int) = 16 * r + p) (hr : r = 1 ∨ r = 2) (hp : 0 ≤ p ∧ p < 16) {K : D → St → Prop} (hF : F.all (fun p => cutOk 6 4 p.2) = true) (hG : Nat.ble G.2 4 = true) (ho : ∀ r z n, LOLe r z n o2 o2) (hn : 0 ≤ now ∧ now ≤ 1099511627776) (hat : ∀ k a, a ∈ R k → 0 ≤ a.at_ ∧ a.at_ ≤ 1099511627776) (hl : ∀ j, (R j).length ≤ 100)
    (hK : K (.tup []) ⟨F, WH now (pourR now k R) (R k) U M c o2, 53, G⟩) : CallVC Tryz.prog false 65 [.loc 0 0, intD r, intD p] ⟨F, WH now R T U M c o2, 53, G⟩ K := by
  have hp16 : p = 0 ∨ p = 1 ∨ p = 2 ∨ p = 3 ∨ p = 4 ∨ p = 5 ∨ p = 6 ∨ p = 7 ∨ p = 8 ∨ p = 9 ∨ p = 10 ∨ p = 11 ∨ p = 12 ∨ p = 13 ∨ p = 14 ∨ p = 15 := by omega
  rcases hr with rfl | rfl
  · rcases hp16 with rfl | rfl | rfl | rfl | rfl | rfl | rfl | rfl | rfl | rfl | rfl | rfl | rfl | rfl | rfl | rfl
    · obtain rfl : k = 16 := by omega
      exact pour_16 F now R T U M c o2 G hF hG ho hn (hat _) hl hK
    · obtain rfl : k = 17 := by omega
      exact pour_17 F now R T U M c o2 G hF hG ho hn (hat _) hl hK
    · obtain rfl : k = 18 := by omega
      exact pour_18 F now R T U M c o2 G hF hG ho hn (hat _) hl hK
    · obtain rfl : k = 19 := by omega
      exact pour_19 F now R T U M c o2 G hF hG ho hn (hat _) hl hK
    · obtain rfl : k = 20 := by omega
      exact pour_20 F now R T U M c o2 G hF hG ho hn (hat _) hl hK
    · obtain rfl : k = 21 := by omega
      exact pour_21 F now R T U M c o2 G hF hG ho hn (hat _) hl hK
    · obtain rfl : k = 22 := by omega
      exact pour_22 F now R T U M c o2 G hF hG ho hn (hat _) hl hK
    · obtain rfl : k = 23 := by omega
      exact pour_23 F now R T U M c o2 G hF hG ho hn (hat _) hl hK
    · obtain rfl : k = 24 := by omega
      exact pour_24 F now R T U M c o2 G hF hG ho hn (hat _) hl hK
    · obtain rfl : k = 25 := by omega
      exact pour_25 F now R T U M c o2 G hF hG ho hn (hat _) hl hK
    · obtain rfl : k = 26 := by omega
      exact pour_26 F now R T U M c o2 G hF hG ho hn (hat _) hl hK
    · obtain rfl : k = 27 := by omega
      exact pour_27 F now R T U M c o2 G hF hG ho hn (hat _) hl hK
    · obtain rfl : k = 28 := by omega
      exact pour_28 F now R T U M c o2 G hF hG ho hn (hat _) hl hK
    · obtain rfl : k = 29 := by omega
      exact pour_29 F now R T U M c o2 G hF hG ho hn (hat _) hl hK
    · obtain rfl : k = 30 := by omega
      exact pour_30 F now R T U M c o2 G hF hG ho hn (hat _) hl hK
    · obtain rfl : k = 31 := by omega
      exact pour_31 F now R T U M c o2 G hF hG ho hn (hat _) hl hK
  · rcases hp16 with rfl | rfl | rfl | rfl | rfl | rfl | rfl | rfl | rfl | rfl | rfl | rfl | rfl | rfl | rfl | rfl
    · obtain rfl : k = 32 := by omega
      exact pour_32 F now R T U M c o2 G hF hG ho hn (hat _) hl hK
    · obtain rfl : k = 33 := by omega
      exact pour_33 F now R T U M c o2 G hF hG ho hn (hat _) hl hK
    · obtain rfl : k = 34 := by omega
      exact pour_34 F now R T U M c o2 G hF hG ho hn (hat _) hl hK
    · obtain rfl : k = 35 := by omega
      exact pour_35 F now R T U M c o2 G hF hG ho hn (hat _) hl hK
    · obtain rfl : k = 36 := by omega
      exact pour_36 F now R T U M c o2 G hF hG ho hn (hat _) hl hK
    · obtain rfl : k = 37 := by omega
      exact pour_37 F now R T U M c o2 G hF hG ho hn (hat _) hl hK
    · obtain rfl : k = 38 := by omega
      exact pour_38 F now R T U M c o2 G hF hG ho hn (hat _) hl hK
    · obtain rfl : k = 39 := by omega
      exact pour_39 F now R T U M c o2 G hF hG ho hn (hat _) hl hK
    · obtain rfl : k = 40 := by omega
      exact pour_40 F now R T U M c o2 G hF hG ho hn (hat _) hl hK
    · obtain rfl : k = 41 := by omega
      exact pour_41 F now R T U M c o2 G hF hG ho hn (hat _) hl hK
    · obtain rfl : k = 42 := by omega
      exact pour_42 F now R T U M c o2 G hF hG ho hn (hat _) hl hK
    · obtain rfl : k = 43 := by omega
      exact pour_43 F now R T U M c o2 G hF hG ho hn (hat _) hl hK
    · obtain rfl : k = 44 := by omega
      exact pour_44 F now R T U M c o2 G hF hG ho hn (hat _) hl hK
    · obtain rfl : k = 45 := by omega
      exact pour_45 F now R T U M c o2 G hF hG ho hn (hat _) hl hK
    · obtain rfl : k = 46 := by omega
      exact pour_46 F now R T U M c o2 G hF hG ho hn (hat _) hl hK
    · obtain rfl : k = 47 := by omega
      exact pour_47 F now R T U M c o2 G hF hG ho hn (hat _) hl hK
end Go.Proofs.YtcbpdjikdohegaaGreat.V
namespace Go.Proofs.YtcbpdjikdohegaaGreat.V
open Go.RowKit Go.Shelf Go.Sort Go.Lib
attribute [local irreducible] Fn FnN OpVC Ob RowFn

def alC (p : Al) : List Value := [.int .i64 p.id, .int .i64 p.at_]
instance : Inhabited Al := ⟨⟨0, 0⟩⟩
def cfA (x y : Al) : Int := match decide (x.id < y.id) with
  | true => -1
  | false => match decide (y.id < x.id) with
    | true => 1
    | false => 0
theorem ltA (x y : Al) : ltOf cfA x y = decide (x.id < y.id) := by
  unfold ltOf cfA
  cases h1 : decide (x.id < y.id) with
  | true => rfl
  | false => cases h2 : decide (y.id < x.id) <;> rfl
theorem swoA : SWO (ltOf cfA) where
  irrefl x := by rw [ltA]; simp
  trans x y z h1 h2 := by rw [ltA] at *; exact decide_eq_true (Int.lt_trans (of_decide_eq_true h1) (of_decide_eq_true h2))
  ntrans x y z h1 h2 := by rw [ltA] at *; exact decide_eq_false (by have h1 := of_decide_eq_false h1; have h2 := of_decide_eq_false h2; omega)

theorem compareI_any (a b : Int) (W : World) : Calls Tryz.prog 39 #[.int .i64 a, .int .i64 b] W fun e w' => e = .returned (.int .i64 (if a < b then -1 else if b < a then 1 else 0)) ∧ w' = W := by
  have hn : ∀ (x : Int) (W : World), Calls Tryz.prog 56 #[.int .i64 x] W fun e w' => e = .returned (.bool false) ∧ w' = W := fun x W => by
    go_enter Tryz.func56, Tryz.ntmps56
    go_wp2
    go_ret
    exact ⟨rfl, rfl⟩
  go_enter Tryz.func39, Tryz.ntmps39
  by_cases h1 : a < b
  · go_wp2_with (go_at_call 56; refine (hn _ _).mono ?_; rintro e w' ⟨rfl, rfl⟩)
    go_ret
    exact ⟨by simp [h1], rfl⟩
  · by_cases h2 : b < a
    · go_wp2_with (go_at_call 56; refine (hn _ _).mono ?_; rintro e w' ⟨rfl, rfl⟩)
      go_ret
      exact ⟨by simp [h1, h2], rfl⟩
    · go_wp2_with (go_at_call 56; refine (hn _ _).mono ?_; rintro e w' ⟨rfl, rfl⟩)
      go_ret
      exact ⟨by simp [h1, h2], rfl⟩
theorem cmpA_any (x y : Al) (W : World) : Calls Tryz.prog 67 #[.agg (alC x).toArray, .agg (alC y).toArray] W fun e w' => e = .returned (.int .i64 (cfA x y)) ∧ ∃ q os', w' = grow (W.drewN q) os' := by
  have hw : cfA x y = if x.id < y.id then -1 else if y.id < x.id then 1 else 0 := by
    unfold cfA
    by_cases h1 : x.id < y.id
    · simp [h1]
    · by_cases h2 : y.id < x.id <;> simp [h1, h2]
  rw [hw]
  simp only [alC]
  generalize x.id = a at *
  generalize y.id = b at *
  have hc := compareI_any a b
  generalize (if a < b then (-1 : Int) else if b < a then 1 else 0) = r at *
  go_enter Tryz.func67, Tryz.ntmps67
  go_wp2_with (go_at_call 39; refine (hc _).mono ?_; rintro e w' ⟨rfl, rfl⟩)
  go_ret
  exact ⟨rfl, 0, _, by rw [alloc_eq_grow, alloc_eq_grow, grow_grow]; rfl⟩

theorem SR.same_H {E : Env} {s : St} {σ : Nat → Nat} {τ : Nat → Value} {a : Act} {w : World} (hs : SR E s σ τ a w) {H' : List (Nat × LO)} (hH : ∀ j, lget H' j = lget s.H j) : SR E ⟨s.F, H', s.nx, s.G⟩ σ τ a w := by
  have e1 : ∀ id b, owned H' σ τ id b = owned s.H σ τ id b := fun id b => by unfold owned; rw [hH]
  have e2 : ctxOf E H' s.nx σ τ w = ctxOf E s.H s.nx σ τ w := by unfold ctxOf; simp only [e1]
  refine ⟨⟨hs.heap.kept, hs.heap.few, fun id el l h => ?_, fun id α el e enc L h => ?_, fun i j b h1 h2 => hs.heap.apart i j b (e1 _ _ ▸ h1) (e1 _ _ ▸ h2), fun id o h => hs.heap.below id o (hH id ▸ h), hs.heap.slices, fun id o h => (by rw [e2]; exact hs.heap.obj id o (hH id ▸ h))⟩, hs.defers, hs.size, fun i d hd => ?_, fun G d v hx => ?_, hs.room⟩
  · show _ ∧ ∃ c, _ ∧ _ ∧ ∀ (j : Nat) d u, _ → _ → Rep (ctxOf E H' s.nx σ τ w) d u
    rw [e2]; exact hs.heap.cells id el l (hH id ▸ h)
  · show _ ∧ ∃ xs, _ ∧ _ ∧ ∀ (i : Nat) x (j : Nat) d u, _ → _ → _ → Rep (ctxOf E H' s.nx σ τ w).still d u
    rw [e2]; exact hs.heap.grow id α el e enc L (hH id ▸ h)
  · show Rep (ctxOf E H' s.nx σ τ w) _ _
    rw [e2]; exact hs.slots i d hd
  · obtain ⟨h1, h2, h3⟩ := hs.ghost G d v hx
    refine ⟨h1, h2, ?_⟩
    show Rep ((ctxOf E H' s.nx σ τ w).only G) d v
    rw [e2]; exact h3

theorem sortA_vc {s : St} {id : Nat} {L S : List Al} {K : D → St → Prop} (hid : lget s.H id = some (.grow Al 73 2 alD L)) (hsz : L.length ≤ 1000000)
    (hS : S.Pairwise fun x y => x.id < y.id) (hp : S.Perm L) (h : K (.tup []) ⟨s.F, (id, .grow Al 73 2 alD S) :: s.H, s.nx, s.G⟩) :
    CallVC Tryz.prog false 66 [.grow id, .fn 67 [] []] s K := by
  have hb : hasBody Tryz.prog 66 := ⟨_, Tryz.func66, rfl⟩
  by_cases hpos : 0 < L.length
  · refine sort_vc sortAL (β := Al) (val := _root_.id) alC (fun _ => rfl) (fun _ => rfl) (by decide) (fun x v hv => by simp [alC] at hv; rcases hv with rfl | rfl <;> rfl) Tryz.isAgg73 Tryz.sizeOf73 cfA swoA 67 (enters_of Tryz.func67 (by kernel_rfl) rfl) cmpA_any hb (M := L) (by rw [List.map_id]; exact hid) hpos (by omega) fun M' hm hs => ?_
    rw [List.map_id, show M' = S from sorted_one (key := Al.id) hS (hm.trans hp.symm) fun i j x y hij hx hy => by
      have := hs i j x y hij hx hy
      have h2 : ltOf cfA y x = decide (cfA y x < 0) := rfl
      rw [ltA] at h2
      have h3 : decide (y.id < x.id) = false := h2.trans (decide_eq_false (by omega))
      have := of_decide_eq_false h3
      omega]
    exact h
  · have hL : L = [] := List.eq_nil_of_length_eq_zero (by omega)
    subst hL
    obtain rfl := hp.eq_nil
    refine ⟨hb, fun E σ τ a w args' hs hr => ?_⟩
    obtain ⟨hal, har⟩ := hr
    obtain ⟨va, vb, rfl⟩ : ∃ va vb, args' = [va, vb] := by
      match args', hal with
      | [x, y], _ => exact ⟨x, y, rfl⟩
    have hav : va = τ id := by
      have := har 0 _ va rfl rfl
      cases this with
      | grow hg => exact hg.2
    obtain ⟨_, xs, ⟨_, hown⟩, _⟩ := hs.heap.grow id _ _ _ _ _ hid
    obtain ⟨p, c, hv⟩ : ∃ p c, va = .slice p 0 c := by
      rcases hown with ⟨h1, _⟩ | ⟨g, cap, cur, h1, _⟩
      · exact ⟨_, _, hav.trans h1⟩
      · exact ⟨_, _, hav.trans h1⟩
    subst hv
    refine (AnyF.slices_SortFunc_none sortAL p c vb w).mono fun e w' hh => ?_
    obtain ⟨rfl, rfl⟩ := hh
    refine ⟨_, _, σ, τ, _, h, rfl, ?_, .tup rfl (fun j d u hd hu => by cases hd), fun hg => by cases hg⟩
    refine hs.same_H fun j => ?_
    by_cases hj : j = id
    · subst hj; rw [lget_same, hid]
    · rw [lget_ne _ _ hj]
end Go.Proofs.YtcbpdjikdohegaaGreat.V
namespace Go.Proofs.YtcbpdjikdohegaaGreat.V
open Go.RowKit
theorem mdels_snoc (D : List Al) (a : Al) (M : List ME) : mdels (D ++ [a]) M = mdel a.id (mdels D M) := by
  unfold mdels; rw [List.foldl_append]; rfl
end Go.Proofs.YtcbpdjikdohegaaGreat.V
