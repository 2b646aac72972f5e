/-
  The reference's Right of layer 31: which farms may be. Written by program (gen_rright.py). Condition: the farm's rows read.
-/
import Derived.Test.YtghfefkmmobmgaaRight
import Derived.Test.YtghfefkmmobmgaaPlan
namespace Go.Proofs.Ytghfefkmmobmgaa
open Go.RowKit

set_option maxHeartbeats 400000 in
theorem vipAt_any (p : Option Addr) (s : Value) (c : Nat) (id : Int) (L : List VipD) (w : World) (hl : L.length ≤ 100) (hL : RowsAt w vipV 5 p L) :
    Calls Try.prog 43 #[.agg #[.slice p L.length c, s], .int .i64 id] w (AnsI w (firstAt (fun u : VipD => u.1 = id) L)) := by
  have hb0 := below_alloc_first w (.cells #[.slice p L.length c, s] 29)
  have hL1 := hL.below hb0
  go_enter Try.func43, Try.ntmps43
  go_wp2
  go_loop [5] (fun i => ∃ k : Nat, k ≤ L.length ∧ i = .int .i64 k ∧ ∀ (j : Nat) (u : VipD), j < k → L[j]? = some u → ¬ (u.1 = id)) (fun i => L.length - (intOf i).toNat)
  case atStart => exact ⟨0, Nat.zero_le _, rfl, fun j u h => by omega⟩
  case round =>
    obtain ⟨k, hk, rfl, hno⟩ := hrel
    by_cases hkl : k < L.length
    · have hx : L[k]? = some L[k] := List.getElem?_eq_getElem hkl
      obtain ⟨b, o, rfl, h0, h1, h2, h3, h4⟩ := vip_cells hL1 hx
      generalize L[k] = x at *
      go_wp2
      all_goals first
        | (go_ret; exact AnsI.mk _ rfl (.inr ⟨k, x, rfl, hx, by simp_all, hno⟩) hb0)
        | (refine ⟨⟨k + 1, (by omega), (by go_num), fun j u hj hu => ?_⟩, (by simp only [intOf]; omega)⟩
           rcases Nat.lt_succ_iff_lt_or_eq.1 hj with h | rfl
           · exact hno j u h hu
           · rw [hx] at hu; injection hu with hu; subst hu; simp_all)
    · go_wp2
      go_ret
      exact AnsI.mk _ rfl (none_yet (by omega) hno) hb0

set_option maxHeartbeats 400000 in
theorem backAt_any (p : Option Addr) (s : Value) (c : Nat) (id : Int) (L : List BackD) (w : World) (hl : L.length ≤ 100) (hL : RowsAt w backV 6 p L) :
    Calls Try.prog 27 #[.agg #[s, .slice p L.length c], .int .i64 id] w (AnsI w (firstAt (fun u : BackD => u.1 = id) L)) := by
  have hb0 := below_alloc_first w (.cells #[s, .slice p L.length c] 29)
  have hL1 := hL.below hb0
  go_enter Try.func27, Try.ntmps27
  go_wp2
  go_loop [5] (fun i => ∃ k : Nat, k ≤ L.length ∧ i = .int .i64 k ∧ ∀ (j : Nat) (u : BackD), j < k → L[j]? = some u → ¬ (u.1 = id)) (fun i => L.length - (intOf i).toNat)
  case atStart => exact ⟨0, Nat.zero_le _, rfl, fun j u h => by omega⟩
  case round =>
    obtain ⟨k, hk, rfl, hno⟩ := hrel
    by_cases hkl : k < L.length
    · have hx : L[k]? = some L[k] := List.getElem?_eq_getElem hkl
      obtain ⟨b, o, rfl, h0, h1, h2, h3, h4, h5⟩ := back_cells hL1 hx
      generalize L[k] = x at *
      go_wp2
      all_goals first
        | (go_ret; exact AnsI.mk _ rfl (.inr ⟨k, x, rfl, hx, by simp_all, hno⟩) hb0)
        | (refine ⟨⟨k + 1, (by omega), (by go_num), fun j u hj hu => ?_⟩, (by simp only [intOf]; omega)⟩
           rcases Nat.lt_succ_iff_lt_or_eq.1 hj with h | rfl
           · exact hno j u h hu
           · rw [hx] at hu; injection hu with hu; subst hu; simp_all)
    · go_wp2
      go_ret
      exact AnsI.mk _ rfl (none_yet (by omega) hno) hb0

set_option maxHeartbeats 400000 in
theorem where_any (p : Option Addr) (s : Value) (c : Nat) (a q t : Int) (L : List VipD) (w : World) (hl : L.length ≤ 100) (hL : RowsAt w vipV 5 p L) :
    Calls Try.prog 25 #[.agg #[.slice p L.length c, s], .int .u32 a, .int .u16 q, .int .u8 t] w (AnsI w (firstAt (fun u : VipD => u.2.1 = a ∧ u.2.2.1 = q ∧ u.2.2.2.1 = t) L)) := by
  have hb0 := below_alloc_first w (.cells #[.slice p L.length c, s] 29)
  have hL1 := hL.below hb0
  go_enter Try.func25, Try.ntmps25
  go_wp2
  go_loop [9] (fun i => ∃ k : Nat, k ≤ L.length ∧ i = .int .i64 k ∧ ∀ (j : Nat) (u : VipD), j < k → L[j]? = some u → ¬ (u.2.1 = a ∧ u.2.2.1 = q ∧ u.2.2.2.1 = t)) (fun i => L.length - (intOf i).toNat)
  case atStart => exact ⟨0, Nat.zero_le _, rfl, fun j u h => by omega⟩
  case round =>
    obtain ⟨k, hk, rfl, hno⟩ := hrel
    by_cases hkl : k < L.length
    · have hx : L[k]? = some L[k] := List.getElem?_eq_getElem hkl
      obtain ⟨b, o, rfl, h0, h1, h2, h3, h4⟩ := vip_cells hL1 hx
      generalize L[k] = x at *
      go_wp2
      all_goals first
        | (go_ret; exact AnsI.mk _ rfl (.inr ⟨k, x, rfl, hx, by simp_all, hno⟩) hb0)
        | (refine ⟨⟨k + 1, (by omega), (by go_num), fun j u hj hu => ?_⟩, (by simp only [intOf]; omega)⟩
           rcases Nat.lt_succ_iff_lt_or_eq.1 hj with h | rfl
           · exact hno j u h hu
           · rw [hx] at hu; injection hu with hu; subst hu; simp_all)
    · go_wp2
      go_ret
      exact AnsI.mk _ rfl (none_yet (by omega) hno) hb0

theorem vipsTo_step {V : List VipD} {k : Nat} {x : VipD} (hx : V[k]? = some x) (hm : vipMay x) (hadj : ∀ y, 0 < k → V[k - 1]? = some y → y.1 < x.1) (hw : firstAt (fun u : VipD => u.2.1 = x.2.1 ∧ u.2.2.1 = x.2.2.1 ∧ u.2.2.2.1 = x.2.2.2.1) V (k : Int)) (h : vipsTo V k) : vipsTo V (k + 1) := by
  have hlen : k < V.length := (List.getElem?_eq_some_iff.1 hx).1
  refine vipsTo_next hx ?_ hm h
  rintro ⟨u, hu, h1⟩
  obtain ⟨j, hj, hju⟩ := mem_take hu
  rcases h1 with h1 | h1
  · have hy : V[k - 1]? = some V[k - 1] := List.getElem?_eq_getElem (by omega)
    have h2 := hadj _ (by omega) hy
    by_cases hjk : j = k - 1
    · subst hjk; rw [hju] at hy; injection hy with hy; rw [← hy] at h2; omega
    · have h3 := ((h (k - 1) _ (by omega) hy).2 j u (by omega) hju).1
      omega
  · rcases hw with ⟨h2, _⟩ | ⟨n, z, h2, _, _, h3⟩
    · omega
    · have : n = k := by omega
      subst this
      exact h3 j u hj hju ⟨h1.1.symm, h1.2.1.symm, h1.2.2.symm⟩
theorem not_may_where {V : List VipD} {B : List BackD} {k : Nat} {x : VipD} {i : Int} (hx : V[k]? = some x) (hw : firstAt (fun u : VipD => u.2.1 = x.2.1 ∧ u.2.2.1 = x.2.2.1 ∧ u.2.2.2.1 = x.2.2.2.1) V i) (hi : i ≠ k) : ¬ farmMay V B := by
  rintro ⟨_, _, h3, _⟩
  rcases hw with ⟨_, h2⟩ | ⟨n, z, rfl, hz, hq, h4⟩
  · exact h2 x (List.mem_of_getElem? hx) ⟨rfl, rfl, rfl⟩
  · by_cases hnk : n < k
    · exact ((h3 k x hx).2 n z hnk hz).2 ⟨hq.1.symm, hq.2.1.symm, hq.2.2.symm⟩
    · exact h4 k x (by omega) hx ⟨rfl, rfl, rfl⟩
theorem not_may_adj {V : List VipD} {B : List BackD} {k : Nat} {x y : VipD} (hx : V[k + 1]? = some x) (hy : V[k]? = some y) (h : x.1 ≤ y.1) : ¬ farmMay V B := by
  rintro ⟨_, _, h3, _⟩
  have := ((h3 (k + 1) x hx).2 k y (by omega) hy).1
  omega
theorem not_may_badj {V : List VipD} {B : List BackD} {k : Nat} {x y : BackD} (hx : B[k + 1]? = some x) (hy : B[k]? = some y) (h : x.1 ≤ y.1) : ¬ farmMay V B := by
  rintro ⟨_, _, _, h3⟩
  have := (h3 (k + 1) x hx).2.1 k y (by omega) hy
  omega
theorem backsTo_step {V : List VipD} {B : List BackD} {k : Nat} {x : BackD} (hx : B[k]? = some x) (hm : backMay x) (hadj : ∀ y, 0 < k → B[k - 1]? = some y → y.1 < x.1) (hv : ∃ v ∈ V, v.1 = x.2.1) (h : backsTo V B k) : backsTo V B (k + 1) := by
  have hlen : k < B.length := (List.getElem?_eq_some_iff.1 hx).1
  refine backsTo_next hx ?_ hm hv h
  rintro ⟨u, hu, h1⟩
  obtain ⟨j, hj, hju⟩ := mem_take hu
  have hy : B[k - 1]? = some B[k - 1] := List.getElem?_eq_getElem (by omega)
  have h2 := hadj _ (by omega) hy
  by_cases hjk : j = k - 1
  · subst hjk; rw [hju] at hy; injection hy with hy; rw [← hy] at h2; omega
  · have h3 := (h (k - 1) _ (by omega) hy).2.1 j u (by omega) hju
    omega

theorem rright7_sel : Region.noSelect ((regionOf 7 (Try.f22.body.getD .skip)).getD #[]) = true := by kernel_rfl
theorem rright7_ok : (decide ([(0, false), (1, true), (2, false), (3, false), (4, false), (5, false), (6, false), (7, false), (8, false), (9, false), (10, false), (11, false), (12, false), (13, false), (14, false), (15, false), (16, false), (17, false), (18, false), (19, false), (20, false), (21, false), (22, false), (23, false), (24, false), (25, false), (26, false), (28, false), (27, true), (29, false), (30, false)].length = ((regionOf 7 (Try.f22.body.getD .skip)).getD #[]).size) && planOk ((regionOf 7 (Try.f22.body.getD .skip)).getD #[]) [(0, false), (1, true), (2, false), (3, false), (4, false), (5, false), (6, false), (7, false), (8, false), (9, false), (10, false), (11, false), (12, false), (13, false), (14, false), (15, false), (16, false), (17, false), (18, false), (19, false), (20, false), (21, false), (22, false), (23, false), (24, false), (25, false), (26, false), (28, false), (27, true), (29, false), (30, false)] (Array.replicate ((regionOf 7 (Try.f22.body.getD .skip)).getD #[]).size false)) = true := by kernel_rfl
theorem rright13_ok : lexOk ((regionOf 13 (Try.f22.body.getD .skip)).getD #[]) [false, true, false, false, false, false, false, false, false, false, false, false, false, false, false, false, false, false, false, false, false, false, false, true, false, false] = true := by kernel_rfl

theorem region_two {P : Program} {C : Code} {a : Act} {w : World} {Q : Exit → Act → World → Prop} (hQ : ∀ c a d v w, Q (.panic c) (Act.put a d v) w → Q (.panic c) a w) (T F : Act → Act → World → Prop)
    (H : ∀ Q' : Exit → Act → World → Prop, (∀ c a d v w, Q' (.panic c) (Act.put a d v) w → Q' (.panic c) a w) → (∀ a' w', T a a' w' → Q' .normal a' w') → (∀ a' w', F a a' w' → Q' .normal a' w') → C.wp P Q' a w)
    (hT : ∀ a' w', T a a' w' → Q .normal a' w') (hF : ∀ a' w', F a a' w' → Q .normal a' w') : C.wp P Q a w := H Q hQ hT hF
def out7 (a : Act) (r : Bool) (a' : Act) : Prop := ∃ v29 v30 v31 v32 v33 v34 v35 v36 v37 v38 v39 v40 v41 v42 v43 v44 v45 v46 v47 v48 v49 v50 v51 v52 v53 v54 v55 v56 v57 v58 : Value, a' = ⟨(a.tmps.toList.take 29 ++ ([v29, v30, v31, v32, v33, v34, v35, v36, v37, v38, v39, v40, v41, v42, v43, v44, v45, v46, v47, v48, v49, v50, v51, v52, v53, v54, v55, v56, v57, v58, .bool r] ++ a.tmps.toList.drop 60)).toArray, a.defers⟩
def out13 (a : Act) (r : Bool) (a' : Act) : Prop := ∃ v72 v73 v74 v75 v76 v77 v78 v79 v80 v81 v82 v83 v84 v85 v86 v87 v88 v89 v90 v91 v92 v93 v94 v95 v96 : Value, a' = ⟨(a.tmps.toList.take 72 ++ ([v72, v73, v74, v75, v76, v77, v78, v79, v80, v81, v82, v83, v84, v85, v86, v87, v88, v89, v90, v91, v92, v93, v94, v95, v96, .bool r] ++ a.tmps.toList.drop 98)).toArray, a.defers⟩

attribute [local irreducible] wpPlan
set_option maxRecDepth 100000 in
set_option maxHeartbeats 4000000 in
theorem rright_any (pv pb : Option Addr) (cv cb : Nat) (V : List VipD) (B : List BackD) (w : World) (hlv : V.length ≤ 100) (hlb : B.length ≤ 100) (hcv : V.length ≤ cv) (hcb : B.length ≤ cb) (hV : RowsAt w vipV 5 pv V) (hB : RowsAt w backV 6 pb B) (wV : ∀ v ∈ V, vipW v) (wB : ∀ b ∈ B, backW b) :
    Calls Try.prog 22 #[.agg #[.slice pv V.length cv, .slice pb B.length cb]] w (AnsB w (farmMay V B)) := by
  go_enter Try.func22, Try.ntmps22
  go_wp2
  · go_ret
    refine AnsB.mk _ rfl ?_ (below_alloc_first _ _)
    go_light
    simp [farmMay]; omega
  · go_loopw [3, 4] (fun i _ wr => ∃ k : Nat, k ≤ V.length ∧ i = .int .i64 k ∧ Since (w.alloc (.cells #[.slice pv V.length cv, .slice pb B.length cb] 29)) wr ∧ vipsTo V k) (fun i _ => fun _ => V.length - (intOf i).toNat)
    case atStart => exact ⟨0, Nat.zero_le _, rfl, Since.refl _, fun i v h => by omega⟩
    case round =>
      obtain ⟨k0, hk, rfl, hb, hok⟩ := hrel
      have hbw : Since w wr := (Since.first w _).trans hb
      have f0 : wr.cell? ⟨w.heap.size, 0, none⟩ = some (.slice pv V.length cv) := (hb.below.cell (by simp)).trans (by simp)
      have f1 : wr.cell? ⟨w.heap.size, 1, none⟩ = some (.slice pb B.length cb) := (hb.below.cell (by simp)).trans (by simp)
      by_cases hkl : k0 < V.length
      · have hx : V[k0]? = some V[k0] := List.getElem?_eq_getElem hkl
        obtain ⟨b, o, rfl, h0, h1, h2, h3, h4⟩ := vip_cells (hV.below hbw.below) hx
        have hxw : vipW V[k0] := wV _ (List.getElem_mem hkl)
        generalize V[k0] = x at *
        have hlt : w.heap.size < wr.heap.size := by have := hb.below.size; simp at this; omega
        have hw16 := hb.alloc (.cells #[.int .i64 x.1, .int .u32 x.2.1, .int .u16 x.2.2.1, .int .u8 x.2.2.2.1, .int .i64 x.2.2.2.2] 45)
        have hw6 : Since w (wr.alloc (.cells #[.int .i64 x.1, .int .u32 x.2.1, .int .u16 x.2.2.1, .int .u8 x.2.2.2.1, .int .i64 x.2.2.2.2] 45)) := hbw.alloc _
        have hrowD := fun (w' : World) (h : Since (wr.alloc (.cells #[.int .i64 x.1, .int .u32 x.2.1, .int .u16 x.2.2.1, .int .u8 x.2.2.2.1, .int .i64 x.2.2.2.2] 45)) w') => hV.below (hw6.trans h).below
        have fa : ∀ (i : Nat) (u : Value), wr.cell? ⟨w.heap.size, i, none⟩ = some u → ∀ w', Since (wr.alloc (.cells #[.int .i64 x.1, .int .u32 x.2.1, .int .u16 x.2.2.1, .int .u8 x.2.2.2.1, .int .i64 x.2.2.2.2] 45)) w' → w'.cell? ⟨w.heap.size, i, none⟩ = some u := fun i u hu w' h =>
          (h.below.cell (by simp; omega)).trans ((World.cell?_alloc_lt wr _ _ (by simpa using hlt)).trans hu)
        have D0 := fa 0 _ f0
        have D1 := fa 1 _ f1
        have G0 : ∀ w', Since (wr.alloc (.cells #[.int .i64 x.1, .int .u32 x.2.1, .int .u16 x.2.2.1, .int .u8 x.2.2.2.1, .int .i64 x.2.2.2.2] 45)) w' → w'.cell? ⟨wr.heap.size, 0, none⟩ = some (.int .i64 x.1) := fun w' h => (h.below.cell (by simp)).trans (by simp)
        have G1 : ∀ w', Since (wr.alloc (.cells #[.int .i64 x.1, .int .u32 x.2.1, .int .u16 x.2.2.1, .int .u8 x.2.2.2.1, .int .i64 x.2.2.2.2] 45)) w' → w'.cell? ⟨wr.heap.size, 1, none⟩ = some (.int .u32 x.2.1) := fun w' h => (h.below.cell (by simp)).trans (by simp)
        have G2 : ∀ w', Since (wr.alloc (.cells #[.int .i64 x.1, .int .u32 x.2.1, .int .u16 x.2.2.1, .int .u8 x.2.2.2.1, .int .i64 x.2.2.2.2] 45)) w' → w'.cell? ⟨wr.heap.size, 2, none⟩ = some (.int .u16 x.2.2.1) := fun w' h => (h.below.cell (by simp)).trans (by simp)
        have G3 : ∀ w', Since (wr.alloc (.cells #[.int .i64 x.1, .int .u32 x.2.1, .int .u16 x.2.2.1, .int .u8 x.2.2.2.1, .int .i64 x.2.2.2.2] 45)) w' → w'.cell? ⟨wr.heap.size, 3, none⟩ = some (.int .u8 x.2.2.2.1) := fun w' h => (h.below.cell (by simp)).trans (by simp)
        have G4 : ∀ w', Since (wr.alloc (.cells #[.int .i64 x.1, .int .u32 x.2.1, .int .u16 x.2.2.1, .int .u8 x.2.2.2.1, .int .i64 x.2.2.2.2] 45)) w' → w'.cell? ⟨wr.heap.size, 4, none⟩ = some (.int .i64 x.2.2.2.2) := fun w' h => (h.below.cell (by simp)).trans (by simp)
        have hs6 : Since (wr.alloc (.cells #[.int .i64 x.1, .int .u32 x.2.1, .int .u16 x.2.2.1, .int .u8 x.2.2.2.1, .int .i64 x.2.2.2.2] 45)) (wr.alloc (.cells #[.int .i64 x.1, .int .u32 x.2.1, .int .u16 x.2.2.1, .int .u8 x.2.2.2.1, .int .i64 x.2.2.2.2] 45)) := Since.refl _
        clear fa
        rcases k0 with _ | k
        · simp only [Nat.zero_mul, Nat.add_zero] at h0 h1 h2 h3 h4
          go_wp2_with fail
          refine region_two (by intro c a d v w h; cases d <;> exact h) (fun a a' w' => out7 a true a' ∧ Since (wr.alloc (.cells #[.int .i64 x.1, .int .u32 x.2.1, .int .u16 x.2.2.1, .int .u8 x.2.2.2.1, .int .i64 x.2.2.2.2] 45)) w' ∧ ¬ farmMay V B) (fun a a' w' => out7 a false a' ∧ Since (wr.alloc (.cells #[.int .i64 x.1, .int .u32 x.2.1, .int .u16 x.2.2.1, .int .u8 x.2.2.2.1, .int .i64 x.2.2.2.2] 45)) w' ∧ (vipMay x ∧ (∀ y, 0 < 0 → V[0 - 1]? = some y → y.1 < x.1) ∧ firstAt (fun u : VipD => u.2.1 = x.2.1 ∧ u.2.2.1 = x.2.2.1 ∧ u.2.2.2.1 = x.2.2.2.1) V ((0 : Nat) : Int))) ?_ ?_ ?_
          · intro Q hQ hT hF
            go_light
            refine wp_region_plan (Since (wr.alloc (.cells #[.int .i64 x.1, .int .u32 x.2.1, .int .u16 x.2.2.1, .int .u8 x.2.2.2.1, .int .i64 x.2.2.2.2] 45))) [(0, false), (1, true), (2, false), (3, false), (4, false), (5, false), (6, false), (7, false), (8, false), (9, false), (10, false), (11, false), (12, false), (13, false), (14, false), (15, false), (16, false), (17, false), (18, false), (19, false), (20, false), (21, false), (22, false), (23, false), (24, false), (25, false), (26, false), (28, false), (27, true), (29, false), (30, false)] (by kernel_rfl) rright7_sel rright7_ok hQ (Since.refl _).drew ?_
            refine wpPlan_pure (by simp only [List.getElem?_toArray, List.getElem?_cons_succ, List.getElem?_cons_zero]; rfl) ?_ ?_ ?_ ?_
            focus exact wanted_none rfl
            rotate_left
            focus (intro wq hq; go_simp; first | done | with_reducible rfl)
            (simp only [Act.put, List.setIfInBounds_toArray]); (try simp only [List.set_cons_succ]); (try simp only [List.set_cons_zero])
            refine wpPlan_solo (by simp only [List.getElem?_toArray, List.getElem?_cons_succ, List.getElem?_cons_zero]; rfl) ?_ (fun K hK => ?_)
            focus exact wanted_none rfl
            go_simp
            go_at_call 58
            refine (goodVip_any x hxw _).mono ?_
            rintro _ w1 ⟨r, rfl, hr, hb1⟩
            refine hK.out _ _ ?_ ?_
            focus (repeat (first | with_reducible assumption | refine Since.alloc ?_ _ | refine Since.drew ?_ | refine Since.next ?_ (by with_reducible assumption)))
            clear hK K
            try (simp only [Act.put, List.setIfInBounds_toArray]); (try simp only [List.set_cons_succ]); (try simp only [List.set_cons_zero])
            cases e1 : r
            case false =>
              try simp only [e1]
              refine wpPlan_pure (by simp only [List.getElem?_toArray, List.getElem?_cons_succ, List.getElem?_cons_zero]; rfl) ?_ ?_ ?_ ?_
              focus exact wanted_none rfl
              rotate_left
              focus (intro wq hq; go_simp; first | done | with_reducible rfl)
              (simp only [Act.put, List.setIfInBounds_toArray]); (try simp only [List.set_cons_succ]); (try simp only [List.set_cons_zero])
              refine wpPlan_pure (by simp only [List.getElem?_toArray, List.getElem?_cons_succ, List.getElem?_cons_zero]; rfl) ?_ ?_ ?_ ?_
              focus exact wanted_none rfl
              rotate_left
              focus (intro wq hq; go_simp; first | done | with_reducible rfl)
              (simp only [Act.put, List.setIfInBounds_toArray]); (try simp only [List.set_cons_succ]); (try simp only [List.set_cons_zero])
              refine wpPlan_skip (by simp only [List.getElem?_toArray, List.getElem?_cons_succ, List.getElem?_cons_zero]; rfl) ?_ ?_
              focus exact unwanted rfl rfl rfl
              (simp only [Act.put, List.setIfInBounds_toArray]); (try simp only [List.set_cons_succ]); (try simp only [List.set_cons_zero])
              refine wpPlan_skip (by simp only [List.getElem?_toArray, List.getElem?_cons_succ, List.getElem?_cons_zero]; rfl) ?_ ?_
              focus exact unwanted rfl rfl rfl
              (simp only [Act.put, List.setIfInBounds_toArray]); (try simp only [List.set_cons_succ]); (try simp only [List.set_cons_zero])
              refine wpPlan_skip (by simp only [List.getElem?_toArray, List.getElem?_cons_succ, List.getElem?_cons_zero]; rfl) ?_ ?_
              focus exact unwanted rfl rfl rfl
              (simp only [Act.put, List.setIfInBounds_toArray]); (try simp only [List.set_cons_succ]); (try simp only [List.set_cons_zero])
              refine wpPlan_skip (by simp only [List.getElem?_toArray, List.getElem?_cons_succ, List.getElem?_cons_zero]; rfl) ?_ ?_
              focus exact unwanted_none rfl rfl
              (simp only [Act.put, List.setIfInBounds_toArray]); (try simp only [List.set_cons_succ]); (try simp only [List.set_cons_zero])
              refine wpPlan_skip (by simp only [List.getElem?_toArray, List.getElem?_cons_succ, List.getElem?_cons_zero]; rfl) ?_ ?_
              focus exact unwanted_none rfl rfl
              (simp only [Act.put, List.setIfInBounds_toArray]); (try simp only [List.set_cons_succ]); (try simp only [List.set_cons_zero])
              refine wpPlan_skip (by simp only [List.getElem?_toArray, List.getElem?_cons_succ, List.getElem?_cons_zero]; rfl) ?_ ?_
              focus exact unwanted_none rfl rfl
              (simp only [Act.put, List.setIfInBounds_toArray]); (try simp only [List.set_cons_succ]); (try simp only [List.set_cons_zero])
              refine wpPlan_skip (by simp only [List.getElem?_toArray, List.getElem?_cons_succ, List.getElem?_cons_zero]; rfl) ?_ ?_
              focus exact unwanted_none rfl rfl
              (simp only [Act.put, List.setIfInBounds_toArray]); (try simp only [List.set_cons_succ]); (try simp only [List.set_cons_zero])
              refine wpPlan_skip (by simp only [List.getElem?_toArray, List.getElem?_cons_succ, List.getElem?_cons_zero]; rfl) ?_ ?_
              focus exact unwanted_none rfl rfl
              (simp only [Act.put, List.setIfInBounds_toArray]); (try simp only [List.set_cons_succ]); (try simp only [List.set_cons_zero])
              refine wpPlan_skip (by simp only [List.getElem?_toArray, List.getElem?_cons_succ, List.getElem?_cons_zero]; rfl) ?_ ?_
              focus exact unwanted_none rfl rfl
              (simp only [Act.put, List.setIfInBounds_toArray]); (try simp only [List.set_cons_succ]); (try simp only [List.set_cons_zero])
              refine wpPlan_skip (by simp only [List.getElem?_toArray, List.getElem?_cons_succ, List.getElem?_cons_zero]; rfl) ?_ ?_
              focus exact unwanted_none rfl rfl
              (simp only [Act.put, List.setIfInBounds_toArray]); (try simp only [List.set_cons_succ]); (try simp only [List.set_cons_zero])
              refine wpPlan_skip (by simp only [List.getElem?_toArray, List.getElem?_cons_succ, List.getElem?_cons_zero]; rfl) ?_ ?_
              focus exact unwanted_none rfl rfl
              (simp only [Act.put, List.setIfInBounds_toArray]); (try simp only [List.set_cons_succ]); (try simp only [List.set_cons_zero])
              refine wpPlan_skip (by simp only [List.getElem?_toArray, List.getElem?_cons_succ, List.getElem?_cons_zero]; rfl) ?_ ?_
              focus exact unwanted_none rfl rfl
              (simp only [Act.put, List.setIfInBounds_toArray]); (try simp only [List.set_cons_succ]); (try simp only [List.set_cons_zero])
              refine wpPlan_skip (by simp only [List.getElem?_toArray, List.getElem?_cons_succ, List.getElem?_cons_zero]; rfl) ?_ ?_
              focus exact unwanted_none rfl rfl
              (simp only [Act.put, List.setIfInBounds_toArray]); (try simp only [List.set_cons_succ]); (try simp only [List.set_cons_zero])
              refine wpPlan_skip (by simp only [List.getElem?_toArray, List.getElem?_cons_succ, List.getElem?_cons_zero]; rfl) ?_ ?_
              focus exact unwanted rfl rfl rfl
              (simp only [Act.put, List.setIfInBounds_toArray]); (try simp only [List.set_cons_succ]); (try simp only [List.set_cons_zero])
              refine wpPlan_pure (by simp only [List.getElem?_toArray, List.getElem?_cons_succ, List.getElem?_cons_zero]; rfl) ?_ ?_ ?_ ?_
              focus exact wanted_none rfl
              rotate_left
              focus (intro wq hq; go_simp; first | done | with_reducible rfl)
              (simp only [Act.put, List.setIfInBounds_toArray]); (try simp only [List.set_cons_succ]); (try simp only [List.set_cons_zero])
              refine wpPlan_pure (by simp only [List.getElem?_toArray, List.getElem?_cons_succ, List.getElem?_cons_zero]; rfl) ?_ ?_ ?_ ?_
              focus exact wanted_none rfl
              rotate_left
              focus (intro wq hq; go_simp; first | done | with_reducible rfl)
              (simp only [Act.put, List.setIfInBounds_toArray]); (try simp only [List.set_cons_succ]); (try simp only [List.set_cons_zero])
              refine wpPlan_skip (by simp only [List.getElem?_toArray, List.getElem?_cons_succ, List.getElem?_cons_zero]; rfl) ?_ ?_
              focus exact unwanted rfl rfl rfl
              (simp only [Act.put, List.setIfInBounds_toArray]); (try simp only [List.set_cons_succ]); (try simp only [List.set_cons_zero])
              refine wpPlan_skip (by simp only [List.getElem?_toArray, List.getElem?_cons_succ, List.getElem?_cons_zero]; rfl) ?_ ?_
              focus exact unwanted rfl rfl rfl
              (simp only [Act.put, List.setIfInBounds_toArray]); (try simp only [List.set_cons_succ]); (try simp only [List.set_cons_zero])
              refine wpPlan_skip (by simp only [List.getElem?_toArray, List.getElem?_cons_succ, List.getElem?_cons_zero]; rfl) ?_ ?_
              focus exact unwanted rfl rfl rfl
              (simp only [Act.put, List.setIfInBounds_toArray]); (try simp only [List.set_cons_succ]); (try simp only [List.set_cons_zero])
              refine wpPlan_skip (by simp only [List.getElem?_toArray, List.getElem?_cons_succ, List.getElem?_cons_zero]; rfl) ?_ ?_
              focus exact unwanted rfl rfl rfl
              (simp only [Act.put, List.setIfInBounds_toArray]); (try simp only [List.set_cons_succ]); (try simp only [List.set_cons_zero])
              refine wpPlan_skip (by simp only [List.getElem?_toArray, List.getElem?_cons_succ, List.getElem?_cons_zero]; rfl) ?_ ?_
              focus exact unwanted rfl rfl rfl
              (simp only [Act.put, List.setIfInBounds_toArray]); (try simp only [List.set_cons_succ]); (try simp only [List.set_cons_zero])
              refine wpPlan_skip (by simp only [List.getElem?_toArray, List.getElem?_cons_succ, List.getElem?_cons_zero]; rfl) ?_ ?_
              focus exact unwanted rfl rfl rfl
              (simp only [Act.put, List.setIfInBounds_toArray]); (try simp only [List.set_cons_succ]); (try simp only [List.set_cons_zero])
              refine wpPlan_skip (by simp only [List.getElem?_toArray, List.getElem?_cons_succ, List.getElem?_cons_zero]; rfl) ?_ ?_
              focus exact unwanted rfl rfl rfl
              (simp only [Act.put, List.setIfInBounds_toArray]); (try simp only [List.set_cons_succ]); (try simp only [List.set_cons_zero])
              refine wpPlan_skip (by simp only [List.getElem?_toArray, List.getElem?_cons_succ, List.getElem?_cons_zero]; rfl) ?_ ?_
              focus exact unwanted rfl rfl rfl
              (simp only [Act.put, List.setIfInBounds_toArray]); (try simp only [List.set_cons_succ]); (try simp only [List.set_cons_zero])
              refine wpPlan_skip (by simp only [List.getElem?_toArray, List.getElem?_cons_succ, List.getElem?_cons_zero]; rfl) ?_ ?_
              focus exact unwanted rfl rfl rfl
              (simp only [Act.put, List.setIfInBounds_toArray]); (try simp only [List.set_cons_succ]); (try simp only [List.set_cons_zero])
              refine wpPlan_skip (by simp only [List.getElem?_toArray, List.getElem?_cons_succ, List.getElem?_cons_zero]; rfl) ?_ ?_
              focus exact unwanted rfl rfl rfl
              (simp only [Act.put, List.setIfInBounds_toArray]); (try simp only [List.set_cons_succ]); (try simp only [List.set_cons_zero])
              refine wpPlan_pure (by simp only [List.getElem?_toArray, List.getElem?_cons_succ, List.getElem?_cons_zero]; rfl) ?_ ?_ ?_ ?_
              focus exact wanted_none rfl
              rotate_left
              focus (intro wq hq; go_simp; first | done | with_reducible rfl)
              (simp only [Act.put, List.setIfInBounds_toArray]); (try simp only [List.set_cons_succ]); (try simp only [List.set_cons_zero])
              refine wpPlan_nil ?_
              exact hT _ _ ⟨⟨_, _, _, _, _, _, _, _, _, _, _, _, _, _, _, _, _, _, _, _, _, _, _, _, _, _, _, _, _, _, rfl⟩, (by (repeat (first | with_reducible assumption | refine Since.alloc ?_ _ | refine Since.drew ?_ | refine Since.next ?_ (by with_reducible assumption)))), (not_may_vip (B := B) hx (fun h => by have h9 := hr.2 h; rw [e1] at h9; cases h9))⟩
            case true =>
              try simp only [e1]
              refine wpPlan_pure (by simp only [List.getElem?_toArray, List.getElem?_cons_succ, List.getElem?_cons_zero]; rfl) ?_ ?_ ?_ ?_
              focus exact wanted_none rfl
              rotate_left
              focus (intro wq hq; go_simp; first | done | with_reducible rfl)
              (simp only [Act.put, List.setIfInBounds_toArray]); (try simp only [List.set_cons_succ]); (try simp only [List.set_cons_zero])
              refine wpPlan_pure (by simp only [List.getElem?_toArray, List.getElem?_cons_succ, List.getElem?_cons_zero]; rfl) ?_ ?_ ?_ ?_
              focus exact wanted_none rfl
              rotate_left
              focus (intro wq hq; go_simp; first | done | with_reducible rfl)
              (simp only [Act.put, List.setIfInBounds_toArray]); (try simp only [List.set_cons_succ]); (try simp only [List.set_cons_zero])
              refine wpPlan_pure (by simp only [List.getElem?_toArray, List.getElem?_cons_succ, List.getElem?_cons_zero]; rfl) ?_ ?_ ?_ ?_
              focus exact wanted_yes rfl rfl
              rotate_left
              focus (intro wq hq; go_simp; first | done | with_reducible rfl)
              (simp only [Act.put, List.setIfInBounds_toArray]); (try simp only [List.set_cons_succ]); (try simp only [List.set_cons_zero])
              refine wpPlan_pure (by simp only [List.getElem?_toArray, List.getElem?_cons_succ, List.getElem?_cons_zero]; rfl) ?_ ?_ ?_ ?_
              focus exact wanted_yes rfl rfl
              rotate_left
              focus (intro wq hq; go_simp; first | done | with_reducible rfl)
              (simp only [Act.put, List.setIfInBounds_toArray]); (try simp only [List.set_cons_succ]); (try simp only [List.set_cons_zero])
              cases e5 : decide ((0 : Int) < 0)
              case false =>
                try simp only [e5]
                refine wpPlan_pure (by simp only [List.getElem?_toArray, List.getElem?_cons_succ, List.getElem?_cons_zero]; rfl) ?_ ?_ ?_ ?_
                focus exact wanted_yes rfl rfl
                rotate_left
                focus (intro wq hq; go_simp; first | done | with_reducible rfl)
                (simp only [Act.put, List.setIfInBounds_toArray]); (try simp only [List.set_cons_succ]); (try simp only [List.set_cons_zero])
                refine wpPlan_skip (by simp only [List.getElem?_toArray, List.getElem?_cons_succ, List.getElem?_cons_zero]; rfl) ?_ ?_
                focus exact unwanted rfl rfl rfl
                (simp only [Act.put, List.setIfInBounds_toArray]); (try simp only [List.set_cons_succ]); (try simp only [List.set_cons_zero])
                refine wpPlan_skip (by simp only [List.getElem?_toArray, List.getElem?_cons_succ, List.getElem?_cons_zero]; rfl) ?_ ?_
                focus exact unwanted rfl rfl rfl
                (simp only [Act.put, List.setIfInBounds_toArray]); (try simp only [List.set_cons_succ]); (try simp only [List.set_cons_zero])
                refine wpPlan_skip (by simp only [List.getElem?_toArray, List.getElem?_cons_succ, List.getElem?_cons_zero]; rfl) ?_ ?_
                focus exact unwanted rfl rfl rfl
                (simp only [Act.put, List.setIfInBounds_toArray]); (try simp only [List.set_cons_succ]); (try simp only [List.set_cons_zero])
                refine wpPlan_skip (by simp only [List.getElem?_toArray, List.getElem?_cons_succ, List.getElem?_cons_zero]; rfl) ?_ ?_
                focus exact unwanted rfl rfl rfl
                (simp only [Act.put, List.setIfInBounds_toArray]); (try simp only [List.set_cons_succ]); (try simp only [List.set_cons_zero])
                refine wpPlan_skip (by simp only [List.getElem?_toArray, List.getElem?_cons_succ, List.getElem?_cons_zero]; rfl) ?_ ?_
                focus exact unwanted rfl rfl rfl
                (simp only [Act.put, List.setIfInBounds_toArray]); (try simp only [List.set_cons_succ]); (try simp only [List.set_cons_zero])
                refine wpPlan_skip (by simp only [List.getElem?_toArray, List.getElem?_cons_succ, List.getElem?_cons_zero]; rfl) ?_ ?_
                focus exact unwanted rfl rfl rfl
                (simp only [Act.put, List.setIfInBounds_toArray]); (try simp only [List.set_cons_succ]); (try simp only [List.set_cons_zero])
                refine wpPlan_skip (by simp only [List.getElem?_toArray, List.getElem?_cons_succ, List.getElem?_cons_zero]; rfl) ?_ ?_
                focus exact unwanted rfl rfl rfl
                (simp only [Act.put, List.setIfInBounds_toArray]); (try simp only [List.set_cons_succ]); (try simp only [List.set_cons_zero])
                refine wpPlan_skip (by simp only [List.getElem?_toArray, List.getElem?_cons_succ, List.getElem?_cons_zero]; rfl) ?_ ?_
                focus exact unwanted rfl rfl rfl
                (simp only [Act.put, List.setIfInBounds_toArray]); (try simp only [List.set_cons_succ]); (try simp only [List.set_cons_zero])
                refine wpPlan_skip (by simp only [List.getElem?_toArray, List.getElem?_cons_succ, List.getElem?_cons_zero]; rfl) ?_ ?_
                focus exact unwanted rfl rfl rfl
                (simp only [Act.put, List.setIfInBounds_toArray]); (try simp only [List.set_cons_succ]); (try simp only [List.set_cons_zero])
                refine wpPlan_skip (by simp only [List.getElem?_toArray, List.getElem?_cons_succ, List.getElem?_cons_zero]; rfl) ?_ ?_
                focus exact unwanted rfl rfl rfl
                (simp only [Act.put, List.setIfInBounds_toArray]); (try simp only [List.set_cons_succ]); (try simp only [List.set_cons_zero])
                refine wpPlan_pure (by simp only [List.getElem?_toArray, List.getElem?_cons_succ, List.getElem?_cons_zero]; rfl) ?_ ?_ ?_ ?_
                focus exact wanted_yes rfl rfl
                rotate_left
                focus (intro wq hq; go_simp; first | done | with_reducible rfl)
                (simp only [Act.put, List.setIfInBounds_toArray]); (try simp only [List.set_cons_succ]); (try simp only [List.set_cons_zero])
                refine wpPlan_pure (by simp only [List.getElem?_toArray, List.getElem?_cons_succ, List.getElem?_cons_zero]; rfl) ?_ ?_ ?_ ?_
                focus exact wanted_none rfl
                rotate_left
                focus (intro wq hq; go_simp; first | done | with_reducible rfl)
                (simp only [Act.put, List.setIfInBounds_toArray]); (try simp only [List.set_cons_succ]); (try simp only [List.set_cons_zero])
                refine wpPlan_pure (by simp only [List.getElem?_toArray, List.getElem?_cons_succ, List.getElem?_cons_zero]; rfl) ?_ ?_ ?_ ?_
                focus exact wanted_none rfl
                rotate_left
                focus (intro wq hq; go_simp; first | done | with_reducible rfl)
                (simp only [Act.put, List.setIfInBounds_toArray]); (try simp only [List.set_cons_succ]); (try simp only [List.set_cons_zero])
                refine wpPlan_pure (by simp only [List.getElem?_toArray, List.getElem?_cons_succ, List.getElem?_cons_zero]; rfl) ?_ ?_ ?_ ?_
                focus exact wanted_yes rfl rfl
                rotate_left
                focus (intro wq hq; go_simp; first | done | with_reducible rfl)
                (simp only [Act.put, List.setIfInBounds_toArray]); (try simp only [List.set_cons_succ]); (try simp only [List.set_cons_zero])
                refine wpPlan_pure (by simp only [List.getElem?_toArray, List.getElem?_cons_succ, List.getElem?_cons_zero]; rfl) ?_ ?_ ?_ ?_
                focus exact wanted_yes rfl rfl
                rotate_left
                focus (intro wq hq; go_simp; first | done | with_reducible rfl)
                (simp only [Act.put, List.setIfInBounds_toArray]); (try simp only [List.set_cons_succ]); (try simp only [List.set_cons_zero])
                refine wpPlan_pure (by simp only [List.getElem?_toArray, List.getElem?_cons_succ, List.getElem?_cons_zero]; rfl) ?_ ?_ ?_ ?_
                focus exact wanted_yes rfl rfl
                rotate_left
                focus (intro wq hq; go_simp; first | done | with_reducible rfl)
                (simp only [Act.put, List.setIfInBounds_toArray]); (try simp only [List.set_cons_succ]); (try simp only [List.set_cons_zero])
                refine wpPlan_pure (by simp only [List.getElem?_toArray, List.getElem?_cons_succ, List.getElem?_cons_zero]; rfl) ?_ ?_ ?_ ?_
                focus exact wanted_yes rfl rfl
                rotate_left
                focus (intro wq hq; go_simp; first | done | with_reducible rfl)
                (simp only [Act.put, List.setIfInBounds_toArray]); (try simp only [List.set_cons_succ]); (try simp only [List.set_cons_zero])
                refine wpPlan_pure (by simp only [List.getElem?_toArray, List.getElem?_cons_succ, List.getElem?_cons_zero]; rfl) ?_ ?_ ?_ ?_
                focus exact wanted_yes rfl rfl
                rotate_left
                focus (intro wq hq; go_simp; first | done | with_reducible rfl)
                (simp only [Act.put, List.setIfInBounds_toArray]); (try simp only [List.set_cons_succ]); (try simp only [List.set_cons_zero])
                refine wpPlan_pure (by simp only [List.getElem?_toArray, List.getElem?_cons_succ, List.getElem?_cons_zero]; rfl) ?_ ?_ ?_ ?_
                focus exact wanted_yes rfl rfl
                rotate_left
                focus (intro wq hq; go_simp; first | done | with_reducible rfl)
                (simp only [Act.put, List.setIfInBounds_toArray]); (try simp only [List.set_cons_succ]); (try simp only [List.set_cons_zero])
                refine wpPlan_pure (by simp only [List.getElem?_toArray, List.getElem?_cons_succ, List.getElem?_cons_zero]; rfl) ?_ ?_ ?_ ?_
                focus exact wanted_yes rfl rfl
                rotate_left
                focus (intro wq hq; go_simp; first | done | with_reducible rfl)
                (simp only [Act.put, List.setIfInBounds_toArray]); (try simp only [List.set_cons_succ]); (try simp only [List.set_cons_zero])
                refine wpPlan_pure (by simp only [List.getElem?_toArray, List.getElem?_cons_succ, List.getElem?_cons_zero]; rfl) ?_ ?_ ?_ ?_
                focus exact wanted_yes rfl rfl
                rotate_left
                focus (intro wq hq; go_simp; first | done | with_reducible rfl)
                (simp only [Act.put, List.setIfInBounds_toArray]); (try simp only [List.set_cons_succ]); (try simp only [List.set_cons_zero])
                refine wpPlan_solo (by simp only [List.getElem?_toArray, List.getElem?_cons_succ, List.getElem?_cons_zero]; rfl) ?_ (fun K hK => ?_)
                focus exact wanted_yes rfl rfl
                go_simp
                go_at_call 25
                refine (where_any _ _ _ _ _ _ _ _ hlv (hrowD _ (by (repeat (first | with_reducible assumption | refine Since.alloc ?_ _ | refine Since.drew ?_ | refine Since.next ?_ (by with_reducible assumption)))))).mono ?_
                rintro _ w2 ⟨i2, rfl, hi2, hb2⟩
                refine hK.out _ _ ?_ ?_
                focus (repeat (first | with_reducible assumption | refine Since.alloc ?_ _ | refine Since.drew ?_ | refine Since.next ?_ (by with_reducible assumption)))
                clear hK K
                try (simp only [Act.put, List.setIfInBounds_toArray]); (try simp only [List.set_cons_succ]); (try simp only [List.set_cons_zero])
                refine wpPlan_pure (by simp only [List.getElem?_toArray, List.getElem?_cons_succ, List.getElem?_cons_zero]; rfl) ?_ ?_ ?_ ?_
                focus exact wanted_yes rfl rfl
                rotate_left
                focus (intro wq hq; go_simp; first | done | with_reducible rfl)
                (simp only [Act.put, List.setIfInBounds_toArray]); (try simp only [List.set_cons_succ]); (try simp only [List.set_cons_zero])
                refine wpPlan_pure (by simp only [List.getElem?_toArray, List.getElem?_cons_succ, List.getElem?_cons_zero]; rfl) ?_ ?_ ?_ ?_
                focus exact wanted_none rfl
                rotate_left
                focus (intro wq hq; go_simp; first | done | with_reducible rfl)
                (simp only [Act.put, List.setIfInBounds_toArray]); (try simp only [List.set_cons_succ]); (try simp only [List.set_cons_zero])
                refine wpPlan_nil ?_
                by_cases heq : i2 = ((0 : Nat) : Int)
                · have hne : (i2 != (0 : Int)) = false := by simp [heq]
                  (try simp only [hne])
                  exact hF _ _ ⟨⟨_, _, _, _, _, _, _, _, _, _, _, _, _, _, _, _, _, _, _, _, _, _, _, _, _, _, _, _, _, _, rfl⟩, (by (repeat (first | with_reducible assumption | refine Since.alloc ?_ _ | refine Since.drew ?_ | refine Since.next ?_ (by with_reducible assumption)))), hr.1 e1, (fun y h0 => by omega), heq ▸ hi2⟩
                · have hne : (i2 != (0 : Int)) = true := by simpa using heq
                  (try simp only [hne])
                  exact hT _ _ ⟨⟨_, _, _, _, _, _, _, _, _, _, _, _, _, _, _, _, _, _, _, _, _, _, _, _, _, _, _, _, _, _, rfl⟩, (by (repeat (first | with_reducible assumption | refine Since.alloc ?_ _ | refine Since.drew ?_ | refine Since.next ?_ (by with_reducible assumption)))), (not_may_where (B := B) hx hi2 heq)⟩
              case true =>
                (exfalso; revert e5; simp)
          · rintro a' w' ⟨⟨v29, v30, v31, v32, v33, v34, v35, v36, v37, v38, v39, v40, v41, v42, v43, v44, v45, v46, v47, v48, v49, v50, v51, v52, v53, v54, v55, v56, v57, v58, rfl⟩, hS, hbad⟩
            simp only [List.take_succ_cons, List.take_zero, List.drop_succ_cons, List.drop_zero, List.drop_nil, List.cons_append, List.nil_append, List.append_nil]
            go_wp2_with fail
            go_ret
            exact AnsB.mk _ rfl (by simp [hbad]) ((Since.trans hw6 hS).below)
          · rintro a' w' ⟨⟨v29, v30, v31, v32, v33, v34, v35, v36, v37, v38, v39, v40, v41, v42, v43, v44, v45, v46, v47, v48, v49, v50, v51, v52, v53, v54, v55, v56, v57, v58, rfl⟩, hS, hgood1, hgood2, hgood3⟩
            simp only [List.take_succ_cons, List.take_zero, List.drop_succ_cons, List.drop_zero, List.drop_nil, List.cons_append, List.nil_append, List.append_nil]
            go_wp2_with fail
            exact ⟨⟨0 + 1, (by omega), (by go_num), Since.trans hw16 hS, vipsTo_step hx hgood1 hgood2 hgood3 hok⟩, (by simp only [intOf]; omega)⟩

        · have hy : V[k]? = some V[k] := List.getElem?_eq_getElem (by omega)
          obtain ⟨b2, o2, he2, y0, _⟩ := vip_cells (hV.below hw6.below) hy
          injection he2 with he2; injection he2 with e1 e2 e3; subst e1 e2
          generalize V[k] = y at *
          have Y0 : ∀ w', Since (wr.alloc (.cells #[.int .i64 x.1, .int .u32 x.2.1, .int .u16 x.2.2.1, .int .u8 x.2.2.2.1, .int .i64 x.2.2.2.2] 45)) w' → w'.cell? ⟨b, o + k * 5, none⟩ = some (.int .i64 y.1) := fun w' h => (h.below.cell (World.block_lt_of_cell? _ _ y0)).trans y0
          clear y0
          have hkw : IntKind.i64.wrap (k : Int) = (k : Int) := IntWalk.i64_in _ (by omega)
          have hkb0 : (0 : Int) ≤ (k : Int) := by omega
          have hkb1 : (k : Int) < (V.length : Int) := by omega
          go_wp2_with fail
          refine region_two (by intro c a d v w h; cases d <;> exact h) (fun a a' w' => out7 a true a' ∧ Since (wr.alloc (.cells #[.int .i64 x.1, .int .u32 x.2.1, .int .u16 x.2.2.1, .int .u8 x.2.2.2.1, .int .i64 x.2.2.2.2] 45)) w' ∧ ¬ farmMay V B) (fun a a' w' => out7 a false a' ∧ Since (wr.alloc (.cells #[.int .i64 x.1, .int .u32 x.2.1, .int .u16 x.2.2.1, .int .u8 x.2.2.2.1, .int .i64 x.2.2.2.2] 45)) w' ∧ (vipMay x ∧ (∀ y, 0 < k + 1 → V[k + 1 - 1]? = some y → y.1 < x.1) ∧ firstAt (fun u : VipD => u.2.1 = x.2.1 ∧ u.2.2.1 = x.2.2.1 ∧ u.2.2.2.1 = x.2.2.2.1) V ((k + 1 : Nat) : Int))) ?_ ?_ ?_
          · intro Q hQ hT hF
            go_light
            refine wp_region_plan (Since (wr.alloc (.cells #[.int .i64 x.1, .int .u32 x.2.1, .int .u16 x.2.2.1, .int .u8 x.2.2.2.1, .int .i64 x.2.2.2.2] 45))) [(0, false), (1, true), (2, false), (3, false), (4, false), (5, false), (6, false), (7, false), (8, false), (9, false), (10, false), (11, false), (12, false), (13, false), (14, false), (15, false), (16, false), (17, false), (18, false), (19, false), (20, false), (21, false), (22, false), (23, false), (24, false), (25, false), (26, false), (28, false), (27, true), (29, false), (30, false)] (by kernel_rfl) rright7_sel rright7_ok hQ (Since.refl _).drew ?_
            refine wpPlan_pure (by simp only [List.getElem?_toArray, List.getElem?_cons_succ, List.getElem?_cons_zero]; rfl) ?_ ?_ ?_ ?_
            focus exact wanted_none rfl
            rotate_left
            focus (intro wq hq; go_simp; first | done | with_reducible rfl)
            (simp only [Act.put, List.setIfInBounds_toArray]); (try simp only [List.set_cons_succ]); (try simp only [List.set_cons_zero])
            refine wpPlan_solo (by simp only [List.getElem?_toArray, List.getElem?_cons_succ, List.getElem?_cons_zero]; rfl) ?_ (fun K hK => ?_)
            focus exact wanted_none rfl
            go_simp
            go_at_call 58
            refine (goodVip_any x hxw _).mono ?_
            rintro _ w1 ⟨r, rfl, hr, hb1⟩
            refine hK.out _ _ ?_ ?_
            focus (repeat (first | with_reducible assumption | refine Since.alloc ?_ _ | refine Since.drew ?_ | refine Since.next ?_ (by with_reducible assumption)))
            clear hK K
            try (simp only [Act.put, List.setIfInBounds_toArray]); (try simp only [List.set_cons_succ]); (try simp only [List.set_cons_zero])
            cases e1 : r
            case false =>
              try simp only [e1]
              refine wpPlan_pure (by simp only [List.getElem?_toArray, List.getElem?_cons_succ, List.getElem?_cons_zero]; rfl) ?_ ?_ ?_ ?_
              focus exact wanted_none rfl
              rotate_left
              focus (intro wq hq; go_simp; first | done | with_reducible rfl)
              (simp only [Act.put, List.setIfInBounds_toArray]); (try simp only [List.set_cons_succ]); (try simp only [List.set_cons_zero])
              refine wpPlan_pure (by simp only [List.getElem?_toArray, List.getElem?_cons_succ, List.getElem?_cons_zero]; rfl) ?_ ?_ ?_ ?_
              focus exact wanted_none rfl
              rotate_left
              focus (intro wq hq; go_simp; first | done | with_reducible rfl)
              (simp only [Act.put, List.setIfInBounds_toArray]); (try simp only [List.set_cons_succ]); (try simp only [List.set_cons_zero])
              refine wpPlan_skip (by simp only [List.getElem?_toArray, List.getElem?_cons_succ, List.getElem?_cons_zero]; rfl) ?_ ?_
              focus exact unwanted rfl rfl rfl
              (simp only [Act.put, List.setIfInBounds_toArray]); (try simp only [List.set_cons_succ]); (try simp only [List.set_cons_zero])
              refine wpPlan_skip (by simp only [List.getElem?_toArray, List.getElem?_cons_succ, List.getElem?_cons_zero]; rfl) ?_ ?_
              focus exact unwanted rfl rfl rfl
              (simp only [Act.put, List.setIfInBounds_toArray]); (try simp only [List.set_cons_succ]); (try simp only [List.set_cons_zero])
              refine wpPlan_skip (by simp only [List.getElem?_toArray, List.getElem?_cons_succ, List.getElem?_cons_zero]; rfl) ?_ ?_
              focus exact unwanted rfl rfl rfl
              (simp only [Act.put, List.setIfInBounds_toArray]); (try simp only [List.set_cons_succ]); (try simp only [List.set_cons_zero])
              refine wpPlan_skip (by simp only [List.getElem?_toArray, List.getElem?_cons_succ, List.getElem?_cons_zero]; rfl) ?_ ?_
              focus exact unwanted_none rfl rfl
              (simp only [Act.put, List.setIfInBounds_toArray]); (try simp only [List.set_cons_succ]); (try simp only [List.set_cons_zero])
              refine wpPlan_skip (by simp only [List.getElem?_toArray, List.getElem?_cons_succ, List.getElem?_cons_zero]; rfl) ?_ ?_
              focus exact unwanted_none rfl rfl
              (simp only [Act.put, List.setIfInBounds_toArray]); (try simp only [List.set_cons_succ]); (try simp only [List.set_cons_zero])
              refine wpPlan_skip (by simp only [List.getElem?_toArray, List.getElem?_cons_succ, List.getElem?_cons_zero]; rfl) ?_ ?_
              focus exact unwanted_none rfl rfl
              (simp only [Act.put, List.setIfInBounds_toArray]); (try simp only [List.set_cons_succ]); (try simp only [List.set_cons_zero])
              refine wpPlan_skip (by simp only [List.getElem?_toArray, List.getElem?_cons_succ, List.getElem?_cons_zero]; rfl) ?_ ?_
              focus exact unwanted_none rfl rfl
              (simp only [Act.put, List.setIfInBounds_toArray]); (try simp only [List.set_cons_succ]); (try simp only [List.set_cons_zero])
              refine wpPlan_skip (by simp only [List.getElem?_toArray, List.getElem?_cons_succ, List.getElem?_cons_zero]; rfl) ?_ ?_
              focus exact unwanted_none rfl rfl
              (simp only [Act.put, List.setIfInBounds_toArray]); (try simp only [List.set_cons_succ]); (try simp only [List.set_cons_zero])
              refine wpPlan_skip (by simp only [List.getElem?_toArray, List.getElem?_cons_succ, List.getElem?_cons_zero]; rfl) ?_ ?_
              focus exact unwanted_none rfl rfl
              (simp only [Act.put, List.setIfInBounds_toArray]); (try simp only [List.set_cons_succ]); (try simp only [List.set_cons_zero])
              refine wpPlan_skip (by simp only [List.getElem?_toArray, List.getElem?_cons_succ, List.getElem?_cons_zero]; rfl) ?_ ?_
              focus exact unwanted_none rfl rfl
              (simp only [Act.put, List.setIfInBounds_toArray]); (try simp only [List.set_cons_succ]); (try simp only [List.set_cons_zero])
              refine wpPlan_skip (by simp only [List.getElem?_toArray, List.getElem?_cons_succ, List.getElem?_cons_zero]; rfl) ?_ ?_
              focus exact unwanted_none rfl rfl
              (simp only [Act.put, List.setIfInBounds_toArray]); (try simp only [List.set_cons_succ]); (try simp only [List.set_cons_zero])
              refine wpPlan_skip (by simp only [List.getElem?_toArray, List.getElem?_cons_succ, List.getElem?_cons_zero]; rfl) ?_ ?_
              focus exact unwanted_none rfl rfl
              (simp only [Act.put, List.setIfInBounds_toArray]); (try simp only [List.set_cons_succ]); (try simp only [List.set_cons_zero])
              refine wpPlan_skip (by simp only [List.getElem?_toArray, List.getElem?_cons_succ, List.getElem?_cons_zero]; rfl) ?_ ?_
              focus exact unwanted_none rfl rfl
              (simp only [Act.put, List.setIfInBounds_toArray]); (try simp only [List.set_cons_succ]); (try simp only [List.set_cons_zero])
              refine wpPlan_skip (by simp only [List.getElem?_toArray, List.getElem?_cons_succ, List.getElem?_cons_zero]; rfl) ?_ ?_
              focus exact unwanted rfl rfl rfl
              (simp only [Act.put, List.setIfInBounds_toArray]); (try simp only [List.set_cons_succ]); (try simp only [List.set_cons_zero])
              refine wpPlan_pure (by simp only [List.getElem?_toArray, List.getElem?_cons_succ, List.getElem?_cons_zero]; rfl) ?_ ?_ ?_ ?_
              focus exact wanted_none rfl
              rotate_left
              focus (intro wq hq; go_simp; first | done | with_reducible rfl)
              (simp only [Act.put, List.setIfInBounds_toArray]); (try simp only [List.set_cons_succ]); (try simp only [List.set_cons_zero])
              refine wpPlan_pure (by simp only [List.getElem?_toArray, List.getElem?_cons_succ, List.getElem?_cons_zero]; rfl) ?_ ?_ ?_ ?_
              focus exact wanted_none rfl
              rotate_left
              focus (intro wq hq; go_simp; first | done | with_reducible rfl)
              (simp only [Act.put, List.setIfInBounds_toArray]); (try simp only [List.set_cons_succ]); (try simp only [List.set_cons_zero])
              refine wpPlan_skip (by simp only [List.getElem?_toArray, List.getElem?_cons_succ, List.getElem?_cons_zero]; rfl) ?_ ?_
              focus exact unwanted rfl rfl rfl
              (simp only [Act.put, List.setIfInBounds_toArray]); (try simp only [List.set_cons_succ]); (try simp only [List.set_cons_zero])
              refine wpPlan_skip (by simp only [List.getElem?_toArray, List.getElem?_cons_succ, List.getElem?_cons_zero]; rfl) ?_ ?_
              focus exact unwanted rfl rfl rfl
              (simp only [Act.put, List.setIfInBounds_toArray]); (try simp only [List.set_cons_succ]); (try simp only [List.set_cons_zero])
              refine wpPlan_skip (by simp only [List.getElem?_toArray, List.getElem?_cons_succ, List.getElem?_cons_zero]; rfl) ?_ ?_
              focus exact unwanted rfl rfl rfl
              (simp only [Act.put, List.setIfInBounds_toArray]); (try simp only [List.set_cons_succ]); (try simp only [List.set_cons_zero])
              refine wpPlan_skip (by simp only [List.getElem?_toArray, List.getElem?_cons_succ, List.getElem?_cons_zero]; rfl) ?_ ?_
              focus exact unwanted rfl rfl rfl
              (simp only [Act.put, List.setIfInBounds_toArray]); (try simp only [List.set_cons_succ]); (try simp only [List.set_cons_zero])
              refine wpPlan_skip (by simp only [List.getElem?_toArray, List.getElem?_cons_succ, List.getElem?_cons_zero]; rfl) ?_ ?_
              focus exact unwanted rfl rfl rfl
              (simp only [Act.put, List.setIfInBounds_toArray]); (try simp only [List.set_cons_succ]); (try simp only [List.set_cons_zero])
              refine wpPlan_skip (by simp only [List.getElem?_toArray, List.getElem?_cons_succ, List.getElem?_cons_zero]; rfl) ?_ ?_
              focus exact unwanted rfl rfl rfl
              (simp only [Act.put, List.setIfInBounds_toArray]); (try simp only [List.set_cons_succ]); (try simp only [List.set_cons_zero])
              refine wpPlan_skip (by simp only [List.getElem?_toArray, List.getElem?_cons_succ, List.getElem?_cons_zero]; rfl) ?_ ?_
              focus exact unwanted rfl rfl rfl
              (simp only [Act.put, List.setIfInBounds_toArray]); (try simp only [List.set_cons_succ]); (try simp only [List.set_cons_zero])
              refine wpPlan_skip (by simp only [List.getElem?_toArray, List.getElem?_cons_succ, List.getElem?_cons_zero]; rfl) ?_ ?_
              focus exact unwanted rfl rfl rfl
              (simp only [Act.put, List.setIfInBounds_toArray]); (try simp only [List.set_cons_succ]); (try simp only [List.set_cons_zero])
              refine wpPlan_skip (by simp only [List.getElem?_toArray, List.getElem?_cons_succ, List.getElem?_cons_zero]; rfl) ?_ ?_
              focus exact unwanted rfl rfl rfl
              (simp only [Act.put, List.setIfInBounds_toArray]); (try simp only [List.set_cons_succ]); (try simp only [List.set_cons_zero])
              refine wpPlan_skip (by simp only [List.getElem?_toArray, List.getElem?_cons_succ, List.getElem?_cons_zero]; rfl) ?_ ?_
              focus exact unwanted rfl rfl rfl
              (simp only [Act.put, List.setIfInBounds_toArray]); (try simp only [List.set_cons_succ]); (try simp only [List.set_cons_zero])
              refine wpPlan_pure (by simp only [List.getElem?_toArray, List.getElem?_cons_succ, List.getElem?_cons_zero]; rfl) ?_ ?_ ?_ ?_
              focus exact wanted_none rfl
              rotate_left
              focus (intro wq hq; go_simp; first | done | with_reducible rfl)
              (simp only [Act.put, List.setIfInBounds_toArray]); (try simp only [List.set_cons_succ]); (try simp only [List.set_cons_zero])
              refine wpPlan_nil ?_
              exact hT _ _ ⟨⟨_, _, _, _, _, _, _, _, _, _, _, _, _, _, _, _, _, _, _, _, _, _, _, _, _, _, _, _, _, _, rfl⟩, (by (repeat (first | with_reducible assumption | refine Since.alloc ?_ _ | refine Since.drew ?_ | refine Since.next ?_ (by with_reducible assumption)))), (not_may_vip (B := B) hx (fun h => by have h9 := hr.2 h; rw [e1] at h9; cases h9))⟩
            case true =>
              try simp only [e1]
              refine wpPlan_pure (by simp only [List.getElem?_toArray, List.getElem?_cons_succ, List.getElem?_cons_zero]; rfl) ?_ ?_ ?_ ?_
              focus exact wanted_none rfl
              rotate_left
              focus (intro wq hq; go_simp; first | done | with_reducible rfl)
              (simp only [Act.put, List.setIfInBounds_toArray]); (try simp only [List.set_cons_succ]); (try simp only [List.set_cons_zero])
              refine wpPlan_pure (by simp only [List.getElem?_toArray, List.getElem?_cons_succ, List.getElem?_cons_zero]; rfl) ?_ ?_ ?_ ?_
              focus exact wanted_none rfl
              rotate_left
              focus (intro wq hq; go_simp; first | done | with_reducible rfl)
              (simp only [Act.put, List.setIfInBounds_toArray]); (try simp only [List.set_cons_succ]); (try simp only [List.set_cons_zero])
              refine wpPlan_pure (by simp only [List.getElem?_toArray, List.getElem?_cons_succ, List.getElem?_cons_zero]; rfl) ?_ ?_ ?_ ?_
              focus exact wanted_yes rfl rfl
              rotate_left
              focus (intro wq hq; go_simp; first | done | with_reducible rfl)
              (simp only [Act.put, List.setIfInBounds_toArray]); (try simp only [List.set_cons_succ]); (try simp only [List.set_cons_zero])
              refine wpPlan_pure (by simp only [List.getElem?_toArray, List.getElem?_cons_succ, List.getElem?_cons_zero]; rfl) ?_ ?_ ?_ ?_
              focus exact wanted_yes rfl rfl
              rotate_left
              focus (intro wq hq; go_simp; first | done | with_reducible rfl)
              (simp only [Act.put, List.setIfInBounds_toArray]); (try simp only [List.set_cons_succ]); (try simp only [List.set_cons_zero])
              cases e5 : decide ((0 : Int) < (k : Int) + 1)
              case false =>
                (exfalso; revert e5; first | (simp; done) | (simp; omega))
              case true =>
                try simp only [e5]
                refine wpPlan_pure (by simp only [List.getElem?_toArray, List.getElem?_cons_succ, List.getElem?_cons_zero]; rfl) ?_ ?_ ?_ ?_
                focus exact wanted_yes rfl rfl
                rotate_left
                focus (intro wq hq; go_simp; first | done | with_reducible rfl)
                (simp only [Act.put, List.setIfInBounds_toArray]); (try simp only [List.set_cons_succ]); (try simp only [List.set_cons_zero])
                refine wpPlan_pure (by simp only [List.getElem?_toArray, List.getElem?_cons_succ, List.getElem?_cons_zero]; rfl) ?_ ?_ ?_ ?_
                focus exact wanted_yes rfl rfl
                rotate_left
                focus (intro wq hq; go_simp; first | done | with_reducible rfl)
                (simp only [Act.put, List.setIfInBounds_toArray]); (try simp only [List.set_cons_succ]); (try simp only [List.set_cons_zero])
                refine wpPlan_pure (by simp only [List.getElem?_toArray, List.getElem?_cons_succ, List.getElem?_cons_zero]; rfl) ?_ ?_ ?_ ?_
                focus exact wanted_yes rfl rfl
                rotate_left
                focus (intro wq hq; go_simp; first | done | with_reducible rfl)
                (simp only [Act.put, List.setIfInBounds_toArray]); (try simp only [List.set_cons_succ]); (try simp only [List.set_cons_zero])
                refine wpPlan_pure (by simp only [List.getElem?_toArray, List.getElem?_cons_succ, List.getElem?_cons_zero]; rfl) ?_ ?_ ?_ ?_
                focus exact wanted_yes rfl rfl
                rotate_left
                focus (intro wq hq; go_simp; first | done | with_reducible rfl)
                (simp only [Act.put, List.setIfInBounds_toArray]); (try simp only [List.set_cons_succ]); (try simp only [List.set_cons_zero])
                refine wpPlan_pure (by simp only [List.getElem?_toArray, List.getElem?_cons_succ, List.getElem?_cons_zero]; rfl) ?_ ?_ ?_ ?_
                focus exact wanted_yes rfl rfl
                rotate_left
                focus (intro wq hq; go_simp; first | done | with_reducible rfl)
                (simp only [Act.put, List.setIfInBounds_toArray]); (try simp only [List.set_cons_succ]); (try simp only [List.set_cons_zero])
                refine wpPlan_pure (by simp only [List.getElem?_toArray, List.getElem?_cons_succ, List.getElem?_cons_zero]; rfl) ?_ ?_ ?_ ?_
                focus exact wanted_yes rfl rfl
                rotate_left
                focus (intro wq hq; go_simp; first | done | with_reducible rfl)
                (simp only [Act.put, List.setIfInBounds_toArray]); (try simp only [List.set_cons_succ]); (try simp only [List.set_cons_zero])
                refine wpPlan_pure (by simp only [List.getElem?_toArray, List.getElem?_cons_succ, List.getElem?_cons_zero]; rfl) ?_ ?_ ?_ ?_
                focus exact wanted_yes rfl rfl
                rotate_left
                focus (intro wq hq; go_simp; first | done | with_reducible rfl)
                (simp only [Act.put, List.setIfInBounds_toArray]); (try simp only [List.set_cons_succ]); (try simp only [List.set_cons_zero])
                refine wpPlan_pure (by simp only [List.getElem?_toArray, List.getElem?_cons_succ, List.getElem?_cons_zero]; rfl) ?_ ?_ ?_ ?_
                focus exact wanted_yes rfl rfl
                rotate_left
                focus (intro wq hq; go_simp; first | done | with_reducible rfl)
                (simp only [Act.put, List.setIfInBounds_toArray]); (try simp only [List.set_cons_succ]); (try simp only [List.set_cons_zero])
                refine wpPlan_pure (by simp only [List.getElem?_toArray, List.getElem?_cons_succ, List.getElem?_cons_zero]; rfl) ?_ ?_ ?_ ?_
                focus exact wanted_yes rfl rfl
                rotate_left
                focus (intro wq hq; go_simp; first | done | with_reducible rfl)
                (simp only [Act.put, List.setIfInBounds_toArray]); (try simp only [List.set_cons_succ]); (try simp only [List.set_cons_zero])
                refine wpPlan_pure (by simp only [List.getElem?_toArray, List.getElem?_cons_succ, List.getElem?_cons_zero]; rfl) ?_ ?_ ?_ ?_
                focus exact wanted_yes rfl rfl
                rotate_left
                focus (intro wq hq; go_simp; first | done | with_reducible rfl)
                (simp only [Act.put, List.setIfInBounds_toArray]); (try simp only [List.set_cons_succ]); (try simp only [List.set_cons_zero])
                refine wpPlan_pure (by simp only [List.getElem?_toArray, List.getElem?_cons_succ, List.getElem?_cons_zero]; rfl) ?_ ?_ ?_ ?_
                focus exact wanted_yes rfl rfl
                rotate_left
                focus (intro wq hq; go_simp; first | done | with_reducible rfl)
                (simp only [Act.put, List.setIfInBounds_toArray]); (try simp only [List.set_cons_succ]); (try simp only [List.set_cons_zero])
                cases e15 : decide (x.1 ≤ y.1)
                case false =>
                  try simp only [e15]
                  refine wpPlan_pure (by simp only [List.getElem?_toArray, List.getElem?_cons_succ, List.getElem?_cons_zero]; rfl) ?_ ?_ ?_ ?_
                  focus exact wanted_yes rfl rfl
                  rotate_left
                  focus (intro wq hq; go_simp; first | done | with_reducible rfl)
                  (simp only [Act.put, List.setIfInBounds_toArray]); (try simp only [List.set_cons_succ]); (try simp only [List.set_cons_zero])
                  refine wpPlan_pure (by simp only [List.getElem?_toArray, List.getElem?_cons_succ, List.getElem?_cons_zero]; rfl) ?_ ?_ ?_ ?_
                  focus exact wanted_none rfl
                  rotate_left
                  focus (intro wq hq; go_simp; first | done | with_reducible rfl)
                  (simp only [Act.put, List.setIfInBounds_toArray]); (try simp only [List.set_cons_succ]); (try simp only [List.set_cons_zero])
                  refine wpPlan_pure (by simp only [List.getElem?_toArray, List.getElem?_cons_succ, List.getElem?_cons_zero]; rfl) ?_ ?_ ?_ ?_
                  focus exact wanted_none rfl
                  rotate_left
                  focus (intro wq hq; go_simp; first | done | with_reducible rfl)
                  (simp only [Act.put, List.setIfInBounds_toArray]); (try simp only [List.set_cons_succ]); (try simp only [List.set_cons_zero])
                  refine wpPlan_pure (by simp only [List.getElem?_toArray, List.getElem?_cons_succ, List.getElem?_cons_zero]; rfl) ?_ ?_ ?_ ?_
                  focus exact wanted_yes rfl rfl
                  rotate_left
                  focus (intro wq hq; go_simp; first | done | with_reducible rfl)
                  (simp only [Act.put, List.setIfInBounds_toArray]); (try simp only [List.set_cons_succ]); (try simp only [List.set_cons_zero])
                  refine wpPlan_pure (by simp only [List.getElem?_toArray, List.getElem?_cons_succ, List.getElem?_cons_zero]; rfl) ?_ ?_ ?_ ?_
                  focus exact wanted_yes rfl rfl
                  rotate_left
                  focus (intro wq hq; go_simp; first | done | with_reducible rfl)
                  (simp only [Act.put, List.setIfInBounds_toArray]); (try simp only [List.set_cons_succ]); (try simp only [List.set_cons_zero])
                  refine wpPlan_pure (by simp only [List.getElem?_toArray, List.getElem?_cons_succ, List.getElem?_cons_zero]; rfl) ?_ ?_ ?_ ?_
                  focus exact wanted_yes rfl rfl
                  rotate_left
                  focus (intro wq hq; go_simp; first | done | with_reducible rfl)
                  (simp only [Act.put, List.setIfInBounds_toArray]); (try simp only [List.set_cons_succ]); (try simp only [List.set_cons_zero])
                  refine wpPlan_pure (by simp only [List.getElem?_toArray, List.getElem?_cons_succ, List.getElem?_cons_zero]; rfl) ?_ ?_ ?_ ?_
                  focus exact wanted_yes rfl rfl
                  rotate_left
                  focus (intro wq hq; go_simp; first | done | with_reducible rfl)
                  (simp only [Act.put, List.setIfInBounds_toArray]); (try simp only [List.set_cons_succ]); (try simp only [List.set_cons_zero])
                  refine wpPlan_pure (by simp only [List.getElem?_toArray, List.getElem?_cons_succ, List.getElem?_cons_zero]; rfl) ?_ ?_ ?_ ?_
                  focus exact wanted_yes rfl rfl
                  rotate_left
                  focus (intro wq hq; go_simp; first | done | with_reducible rfl)
                  (simp only [Act.put, List.setIfInBounds_toArray]); (try simp only [List.set_cons_succ]); (try simp only [List.set_cons_zero])
                  refine wpPlan_pure (by simp only [List.getElem?_toArray, List.getElem?_cons_succ, List.getElem?_cons_zero]; rfl) ?_ ?_ ?_ ?_
                  focus exact wanted_yes rfl rfl
                  rotate_left
                  focus (intro wq hq; go_simp; first | done | with_reducible rfl)
                  (simp only [Act.put, List.setIfInBounds_toArray]); (try simp only [List.set_cons_succ]); (try simp only [List.set_cons_zero])
                  refine wpPlan_pure (by simp only [List.getElem?_toArray, List.getElem?_cons_succ, List.getElem?_cons_zero]; rfl) ?_ ?_ ?_ ?_
                  focus exact wanted_yes rfl rfl
                  rotate_left
                  focus (intro wq hq; go_simp; first | done | with_reducible rfl)
                  (simp only [Act.put, List.setIfInBounds_toArray]); (try simp only [List.set_cons_succ]); (try simp only [List.set_cons_zero])
                  refine wpPlan_pure (by simp only [List.getElem?_toArray, List.getElem?_cons_succ, List.getElem?_cons_zero]; rfl) ?_ ?_ ?_ ?_
                  focus exact wanted_yes rfl rfl
                  rotate_left
                  focus (intro wq hq; go_simp; first | done | with_reducible rfl)
                  (simp only [Act.put, List.setIfInBounds_toArray]); (try simp only [List.set_cons_succ]); (try simp only [List.set_cons_zero])
                  refine wpPlan_solo (by simp only [List.getElem?_toArray, List.getElem?_cons_succ, List.getElem?_cons_zero]; rfl) ?_ (fun K hK => ?_)
                  focus exact wanted_yes rfl rfl
                  go_simp
                  go_at_call 25
                  refine (where_any _ _ _ _ _ _ _ _ hlv (hrowD _ (by (repeat (first | with_reducible assumption | refine Since.alloc ?_ _ | refine Since.drew ?_ | refine Since.next ?_ (by with_reducible assumption)))))).mono ?_
                  rintro _ w2 ⟨i2, rfl, hi2, hb2⟩
                  refine hK.out _ _ ?_ ?_
                  focus (repeat (first | with_reducible assumption | refine Since.alloc ?_ _ | refine Since.drew ?_ | refine Since.next ?_ (by with_reducible assumption)))
                  clear hK K
                  try (simp only [Act.put, List.setIfInBounds_toArray]); (try simp only [List.set_cons_succ]); (try simp only [List.set_cons_zero])
                  refine wpPlan_pure (by simp only [List.getElem?_toArray, List.getElem?_cons_succ, List.getElem?_cons_zero]; rfl) ?_ ?_ ?_ ?_
                  focus exact wanted_yes rfl rfl
                  rotate_left
                  focus (intro wq hq; go_simp; first | done | with_reducible rfl)
                  (simp only [Act.put, List.setIfInBounds_toArray]); (try simp only [List.set_cons_succ]); (try simp only [List.set_cons_zero])
                  refine wpPlan_pure (by simp only [List.getElem?_toArray, List.getElem?_cons_succ, List.getElem?_cons_zero]; rfl) ?_ ?_ ?_ ?_
                  focus exact wanted_none rfl
                  rotate_left
                  focus (intro wq hq; go_simp; first | done | with_reducible rfl)
                  (simp only [Act.put, List.setIfInBounds_toArray]); (try simp only [List.set_cons_succ]); (try simp only [List.set_cons_zero])
                  refine wpPlan_nil ?_
                  by_cases heq : i2 = ((k + 1 : Nat) : Int)
                  · have hne : (i2 != ((k : Int) + 1)) = false := by simp [heq]
                    (try simp only [hne])
                    exact hF _ _ ⟨⟨_, _, _, _, _, _, _, _, _, _, _, _, _, _, _, _, _, _, _, _, _, _, _, _, _, _, _, _, _, _, rfl⟩, (by (repeat (first | with_reducible assumption | refine Since.alloc ?_ _ | refine Since.drew ?_ | refine Since.next ?_ (by with_reducible assumption)))), hr.1 e1, (fun z _ hz => by rw [Nat.add_sub_cancel, hy] at hz; injection hz with hz; subst hz; have := of_decide_eq_false e15; omega), heq ▸ hi2⟩
                  · have hne : (i2 != ((k : Int) + 1)) = true := by simpa using heq
                    (try simp only [hne])
                    exact hT _ _ ⟨⟨_, _, _, _, _, _, _, _, _, _, _, _, _, _, _, _, _, _, _, _, _, _, _, _, _, _, _, _, _, _, rfl⟩, (by (repeat (first | with_reducible assumption | refine Since.alloc ?_ _ | refine Since.drew ?_ | refine Since.next ?_ (by with_reducible assumption)))), (not_may_where (B := B) hx hi2 heq)⟩
                case true =>
                  try simp only [e15]
                  refine wpPlan_pure (by simp only [List.getElem?_toArray, List.getElem?_cons_succ, List.getElem?_cons_zero]; rfl) ?_ ?_ ?_ ?_
                  focus exact wanted_yes rfl rfl
                  rotate_left
                  focus (intro wq hq; go_simp; first | done | with_reducible rfl)
                  (simp only [Act.put, List.setIfInBounds_toArray]); (try simp only [List.set_cons_succ]); (try simp only [List.set_cons_zero])
                  refine wpPlan_pure (by simp only [List.getElem?_toArray, List.getElem?_cons_succ, List.getElem?_cons_zero]; rfl) ?_ ?_ ?_ ?_
                  focus exact wanted_none rfl
                  rotate_left
                  focus (intro wq hq; go_simp; first | done | with_reducible rfl)
                  (simp only [Act.put, List.setIfInBounds_toArray]); (try simp only [List.set_cons_succ]); (try simp only [List.set_cons_zero])
                  refine wpPlan_pure (by simp only [List.getElem?_toArray, List.getElem?_cons_succ, List.getElem?_cons_zero]; rfl) ?_ ?_ ?_ ?_
                  focus exact wanted_none rfl
                  rotate_left
                  focus (intro wq hq; go_simp; first | done | with_reducible rfl)
                  (simp only [Act.put, List.setIfInBounds_toArray]); (try simp only [List.set_cons_succ]); (try simp only [List.set_cons_zero])
                  refine wpPlan_skip (by simp only [List.getElem?_toArray, List.getElem?_cons_succ, List.getElem?_cons_zero]; rfl) ?_ ?_
                  focus exact unwanted rfl rfl rfl
                  (simp only [Act.put, List.setIfInBounds_toArray]); (try simp only [List.set_cons_succ]); (try simp only [List.set_cons_zero])
                  refine wpPlan_skip (by simp only [List.getElem?_toArray, List.getElem?_cons_succ, List.getElem?_cons_zero]; rfl) ?_ ?_
                  focus exact unwanted rfl rfl rfl
                  (simp only [Act.put, List.setIfInBounds_toArray]); (try simp only [List.set_cons_succ]); (try simp only [List.set_cons_zero])
                  refine wpPlan_skip (by simp only [List.getElem?_toArray, List.getElem?_cons_succ, List.getElem?_cons_zero]; rfl) ?_ ?_
                  focus exact unwanted rfl rfl rfl
                  (simp only [Act.put, List.setIfInBounds_toArray]); (try simp only [List.set_cons_succ]); (try simp only [List.set_cons_zero])
                  refine wpPlan_skip (by simp only [List.getElem?_toArray, List.getElem?_cons_succ, List.getElem?_cons_zero]; rfl) ?_ ?_
                  focus exact unwanted rfl rfl rfl
                  (simp only [Act.put, List.setIfInBounds_toArray]); (try simp only [List.set_cons_succ]); (try simp only [List.set_cons_zero])
                  refine wpPlan_skip (by simp only [List.getElem?_toArray, List.getElem?_cons_succ, List.getElem?_cons_zero]; rfl) ?_ ?_
                  focus exact unwanted rfl rfl rfl
                  (simp only [Act.put, List.setIfInBounds_toArray]); (try simp only [List.set_cons_succ]); (try simp only [List.set_cons_zero])
                  refine wpPlan_skip (by simp only [List.getElem?_toArray, List.getElem?_cons_succ, List.getElem?_cons_zero]; rfl) ?_ ?_
                  focus exact unwanted rfl rfl rfl
                  (simp only [Act.put, List.setIfInBounds_toArray]); (try simp only [List.set_cons_succ]); (try simp only [List.set_cons_zero])
                  refine wpPlan_skip (by simp only [List.getElem?_toArray, List.getElem?_cons_succ, List.getElem?_cons_zero]; rfl) ?_ ?_
                  focus exact unwanted rfl rfl rfl
                  (simp only [Act.put, List.setIfInBounds_toArray]); (try simp only [List.set_cons_succ]); (try simp only [List.set_cons_zero])
                  refine wpPlan_skip (by simp only [List.getElem?_toArray, List.getElem?_cons_succ, List.getElem?_cons_zero]; rfl) ?_ ?_
                  focus exact unwanted rfl rfl rfl
                  (simp only [Act.put, List.setIfInBounds_toArray]); (try simp only [List.set_cons_succ]); (try simp only [List.set_cons_zero])
                  refine wpPlan_skip (by simp only [List.getElem?_toArray, List.getElem?_cons_succ, List.getElem?_cons_zero]; rfl) ?_ ?_
                  focus exact unwanted rfl rfl rfl
                  (simp only [Act.put, List.setIfInBounds_toArray]); (try simp only [List.set_cons_succ]); (try simp only [List.set_cons_zero])
                  refine wpPlan_skip (by simp only [List.getElem?_toArray, List.getElem?_cons_succ, List.getElem?_cons_zero]; rfl) ?_ ?_
                  focus exact unwanted rfl rfl rfl
                  (simp only [Act.put, List.setIfInBounds_toArray]); (try simp only [List.set_cons_succ]); (try simp only [List.set_cons_zero])
                  refine wpPlan_pure (by simp only [List.getElem?_toArray, List.getElem?_cons_succ, List.getElem?_cons_zero]; rfl) ?_ ?_ ?_ ?_
                  focus exact wanted_none rfl
                  rotate_left
                  focus (intro wq hq; go_simp; first | done | with_reducible rfl)
                  (simp only [Act.put, List.setIfInBounds_toArray]); (try simp only [List.set_cons_succ]); (try simp only [List.set_cons_zero])
                  refine wpPlan_nil ?_
                  exact hT _ _ ⟨⟨_, _, _, _, _, _, _, _, _, _, _, _, _, _, _, _, _, _, _, _, _, _, _, _, _, _, _, _, _, _, rfl⟩, (by (repeat (first | with_reducible assumption | refine Since.alloc ?_ _ | refine Since.drew ?_ | refine Since.next ?_ (by with_reducible assumption)))), (not_may_adj (B := B) hx hy (of_decide_eq_true e15))⟩
          · rintro a' w' ⟨⟨v29, v30, v31, v32, v33, v34, v35, v36, v37, v38, v39, v40, v41, v42, v43, v44, v45, v46, v47, v48, v49, v50, v51, v52, v53, v54, v55, v56, v57, v58, rfl⟩, hS, hbad⟩
            simp only [List.take_succ_cons, List.take_zero, List.drop_succ_cons, List.drop_zero, List.drop_nil, List.cons_append, List.nil_append, List.append_nil]
            go_wp2_with fail
            go_ret
            exact AnsB.mk _ rfl (by simp [hbad]) ((Since.trans hw6 hS).below)
          · rintro a' w' ⟨⟨v29, v30, v31, v32, v33, v34, v35, v36, v37, v38, v39, v40, v41, v42, v43, v44, v45, v46, v47, v48, v49, v50, v51, v52, v53, v54, v55, v56, v57, v58, rfl⟩, hS, hgood1, hgood2, hgood3⟩
            simp only [List.take_succ_cons, List.take_zero, List.drop_succ_cons, List.drop_zero, List.drop_nil, List.cons_append, List.nil_append, List.append_nil]
            go_wp2_with fail
            exact ⟨⟨k + 1 + 1, (by omega), (by go_num), Since.trans hw16 hS, vipsTo_step hx hgood1 hgood2 hgood3 hok⟩, (by simp only [intOf]; omega)⟩

      · have hkv : k0 = V.length := by omega
        subst hkv
        go_wp2_with fail
        have hok1 := hok
        have hb0 := hb
        clear hok hk hkl f0 f1 hbw hb
        go_loopw [5, 6] (fun i _ wr => ∃ k : Nat, k ≤ B.length ∧ i = .int .i64 k ∧ Since (w.alloc (.cells #[.slice pv V.length cv, .slice pb B.length cb] 29)) wr ∧ backsTo V B k) (fun i _ => fun _ => B.length - (intOf i).toNat)
        case atStart => exact ⟨0, Nat.zero_le _, rfl, hb0, fun i v h => by omega⟩
        case round =>
          clear hb0
          obtain ⟨k0, hk, rfl, hb, hok⟩ := hrel
          rename_i wr
          have hbw : Since w wr := (Since.first w _).trans hb
          have f0 : wr.cell? ⟨w.heap.size, 0, none⟩ = some (.slice pv V.length cv) := (hb.below.cell (by simp)).trans (by simp)
          have f1 : wr.cell? ⟨w.heap.size, 1, none⟩ = some (.slice pb B.length cb) := (hb.below.cell (by simp)).trans (by simp)
          by_cases hkl : k0 < B.length
          · have hx : B[k0]? = some B[k0] := List.getElem?_eq_getElem hkl
            obtain ⟨b, o, rfl, h0, h1, h2, h3, h4, h5⟩ := back_cells (hB.below hbw.below) hx
            have hxw : backW B[k0] := wB _ (List.getElem_mem hkl)
            generalize B[k0] = x at *
            have hlt : w.heap.size < wr.heap.size := by have := hb.below.size; simp at this; omega
            have hw16 := hb.alloc (.cells #[.int .i64 x.1, .int .i64 x.2.1, .int .u32 x.2.2.1, .int .i64 x.2.2.2.1, .int .i64 x.2.2.2.2.1, .bool x.2.2.2.2.2] 50)
            have hw6 : Since w (wr.alloc (.cells #[.int .i64 x.1, .int .i64 x.2.1, .int .u32 x.2.2.1, .int .i64 x.2.2.2.1, .int .i64 x.2.2.2.2.1, .bool x.2.2.2.2.2] 50)) := hbw.alloc _
            have hrowD := fun (w' : World) (h : Since (wr.alloc (.cells #[.int .i64 x.1, .int .i64 x.2.1, .int .u32 x.2.2.1, .int .i64 x.2.2.2.1, .int .i64 x.2.2.2.2.1, .bool x.2.2.2.2.2] 50)) w') => hV.below (hw6.trans h).below
            have fa : ∀ (i : Nat) (u : Value), wr.cell? ⟨w.heap.size, i, none⟩ = some u → ∀ w', Since (wr.alloc (.cells #[.int .i64 x.1, .int .i64 x.2.1, .int .u32 x.2.2.1, .int .i64 x.2.2.2.1, .int .i64 x.2.2.2.2.1, .bool x.2.2.2.2.2] 50)) w' → w'.cell? ⟨w.heap.size, i, none⟩ = some u := fun i u hu w' h =>
              (h.below.cell (by simp; omega)).trans ((World.cell?_alloc_lt wr _ _ (by simpa using hlt)).trans hu)
            have D0 := fa 0 _ f0
            have D1 := fa 1 _ f1
            have G0 : ∀ w', Since (wr.alloc (.cells #[.int .i64 x.1, .int .i64 x.2.1, .int .u32 x.2.2.1, .int .i64 x.2.2.2.1, .int .i64 x.2.2.2.2.1, .bool x.2.2.2.2.2] 50)) w' → w'.cell? ⟨wr.heap.size, 0, none⟩ = some (.int .i64 x.1) := fun w' h => (h.below.cell (by simp)).trans (by simp)
            have G1 : ∀ w', Since (wr.alloc (.cells #[.int .i64 x.1, .int .i64 x.2.1, .int .u32 x.2.2.1, .int .i64 x.2.2.2.1, .int .i64 x.2.2.2.2.1, .bool x.2.2.2.2.2] 50)) w' → w'.cell? ⟨wr.heap.size, 1, none⟩ = some (.int .i64 x.2.1) := fun w' h => (h.below.cell (by simp)).trans (by simp)
            have G2 : ∀ w', Since (wr.alloc (.cells #[.int .i64 x.1, .int .i64 x.2.1, .int .u32 x.2.2.1, .int .i64 x.2.2.2.1, .int .i64 x.2.2.2.2.1, .bool x.2.2.2.2.2] 50)) w' → w'.cell? ⟨wr.heap.size, 2, none⟩ = some (.int .u32 x.2.2.1) := fun w' h => (h.below.cell (by simp)).trans (by simp)
            have G3 : ∀ w', Since (wr.alloc (.cells #[.int .i64 x.1, .int .i64 x.2.1, .int .u32 x.2.2.1, .int .i64 x.2.2.2.1, .int .i64 x.2.2.2.2.1, .bool x.2.2.2.2.2] 50)) w' → w'.cell? ⟨wr.heap.size, 3, none⟩ = some (.int .i64 x.2.2.2.1) := fun w' h => (h.below.cell (by simp)).trans (by simp)
            have G4 : ∀ w', Since (wr.alloc (.cells #[.int .i64 x.1, .int .i64 x.2.1, .int .u32 x.2.2.1, .int .i64 x.2.2.2.1, .int .i64 x.2.2.2.2.1, .bool x.2.2.2.2.2] 50)) w' → w'.cell? ⟨wr.heap.size, 4, none⟩ = some (.int .i64 x.2.2.2.2.1) := fun w' h => (h.below.cell (by simp)).trans (by simp)
            have G5 : ∀ w', Since (wr.alloc (.cells #[.int .i64 x.1, .int .i64 x.2.1, .int .u32 x.2.2.1, .int .i64 x.2.2.2.1, .int .i64 x.2.2.2.2.1, .bool x.2.2.2.2.2] 50)) w' → w'.cell? ⟨wr.heap.size, 5, none⟩ = some (.bool x.2.2.2.2.2) := fun w' h => (h.below.cell (by simp)).trans (by simp)
            have hs6 : Since (wr.alloc (.cells #[.int .i64 x.1, .int .i64 x.2.1, .int .u32 x.2.2.1, .int .i64 x.2.2.2.1, .int .i64 x.2.2.2.2.1, .bool x.2.2.2.2.2] 50)) (wr.alloc (.cells #[.int .i64 x.1, .int .i64 x.2.1, .int .u32 x.2.2.1, .int .i64 x.2.2.2.1, .int .i64 x.2.2.2.2.1, .bool x.2.2.2.2.2] 50)) := Since.refl _
            clear fa
            rcases k0 with _ | k
            · simp only [Nat.zero_mul, Nat.add_zero] at h0 h1 h2 h3 h4 h5
              go_wp2_with fail
              refine region_two (by intro c a d v w h; cases d <;> exact h) (fun a a' w' => out13 a true a' ∧ Since (wr.alloc (.cells #[.int .i64 x.1, .int .i64 x.2.1, .int .u32 x.2.2.1, .int .i64 x.2.2.2.1, .int .i64 x.2.2.2.2.1, .bool x.2.2.2.2.2] 50)) w' ∧ ¬ farmMay V B) (fun a a' w' => out13 a false a' ∧ Since (wr.alloc (.cells #[.int .i64 x.1, .int .i64 x.2.1, .int .u32 x.2.2.1, .int .i64 x.2.2.2.1, .int .i64 x.2.2.2.2.1, .bool x.2.2.2.2.2] 50)) w' ∧ (backMay x ∧ (∀ y, 0 < 0 → B[0 - 1]? = some y → y.1 < x.1) ∧ ∃ v ∈ V, v.1 = x.2.1)) ?_ ?_ ?_
              · intro Q hQ hT hF
                go_light
                refine wp_region_lexp (Since (wr.alloc (.cells #[.int .i64 x.1, .int .i64 x.2.1, .int .u32 x.2.2.1, .int .i64 x.2.2.2.1, .int .i64 x.2.2.2.2.1, .bool x.2.2.2.2.2] 50))) [false, true, false, false, false, false, false, false, false, false, false, false, false, false, false, false, false, false, false, false, false, false, false, true, false, false] (by kernel_rfl) rright13_ok hQ (Since.refl _).drew ?_
                refine wpLexP_pure ?_ ?_ ?_ ?_
                focus exact wanted_none rfl
                rotate_left
                focus (intro wq hq; go_simp; first | done | with_reducible rfl)
                (simp only [Act.put, List.setIfInBounds_toArray]); (try simp only [List.set_cons_succ]); (try simp only [List.set_cons_zero])
                refine wpLexP_solo ?_ (fun K hK => ?_)
                focus exact wanted_none rfl
                go_simp
                go_at_call 59
                refine (goodBackend_any x hxw _).mono ?_
                rintro _ w1 ⟨r, rfl, hr, hb1⟩
                refine hK.out _ _ ?_ ?_
                focus (repeat (first | with_reducible assumption | refine Since.alloc ?_ _ | refine Since.drew ?_ | refine Since.next ?_ (by with_reducible assumption)))
                clear hK K
                try (simp only [Act.put, List.setIfInBounds_toArray]); (try simp only [List.set_cons_succ]); (try simp only [List.set_cons_zero])
                cases e1 : r
                case false =>
                  try simp only [e1]
                  refine wpLexP_pure ?_ ?_ ?_ ?_
                  focus exact wanted_none rfl
                  rotate_left
                  focus (intro wq hq; go_simp; first | done | with_reducible rfl)
                  (simp only [Act.put, List.setIfInBounds_toArray]); (try simp only [List.set_cons_succ]); (try simp only [List.set_cons_zero])
                  refine wpLexP_pure ?_ ?_ ?_ ?_
                  focus exact wanted_none rfl
                  rotate_left
                  focus (intro wq hq; go_simp; first | done | with_reducible rfl)
                  (simp only [Act.put, List.setIfInBounds_toArray]); (try simp only [List.set_cons_succ]); (try simp only [List.set_cons_zero])
                  refine wpLexP_skip ?_ ?_
                  focus exact unwanted rfl rfl rfl
                  (simp only [Act.put, List.setIfInBounds_toArray]); (try simp only [List.set_cons_succ]); (try simp only [List.set_cons_zero])
                  refine wpLexP_skip ?_ ?_
                  focus exact unwanted rfl rfl rfl
                  (simp only [Act.put, List.setIfInBounds_toArray]); (try simp only [List.set_cons_succ]); (try simp only [List.set_cons_zero])
                  refine wpLexP_skip ?_ ?_
                  focus exact unwanted rfl rfl rfl
                  (simp only [Act.put, List.setIfInBounds_toArray]); (try simp only [List.set_cons_succ]); (try simp only [List.set_cons_zero])
                  refine wpLexP_skip ?_ ?_
                  focus exact unwanted_none rfl rfl
                  (simp only [Act.put, List.setIfInBounds_toArray]); (try simp only [List.set_cons_succ]); (try simp only [List.set_cons_zero])
                  refine wpLexP_skip ?_ ?_
                  focus exact unwanted_none rfl rfl
                  (simp only [Act.put, List.setIfInBounds_toArray]); (try simp only [List.set_cons_succ]); (try simp only [List.set_cons_zero])
                  refine wpLexP_skip ?_ ?_
                  focus exact unwanted_none rfl rfl
                  (simp only [Act.put, List.setIfInBounds_toArray]); (try simp only [List.set_cons_succ]); (try simp only [List.set_cons_zero])
                  refine wpLexP_skip ?_ ?_
                  focus exact unwanted_none rfl rfl
                  (simp only [Act.put, List.setIfInBounds_toArray]); (try simp only [List.set_cons_succ]); (try simp only [List.set_cons_zero])
                  refine wpLexP_skip ?_ ?_
                  focus exact unwanted_none rfl rfl
                  (simp only [Act.put, List.setIfInBounds_toArray]); (try simp only [List.set_cons_succ]); (try simp only [List.set_cons_zero])
                  refine wpLexP_skip ?_ ?_
                  focus exact unwanted_none rfl rfl
                  (simp only [Act.put, List.setIfInBounds_toArray]); (try simp only [List.set_cons_succ]); (try simp only [List.set_cons_zero])
                  refine wpLexP_skip ?_ ?_
                  focus exact unwanted_none rfl rfl
                  (simp only [Act.put, List.setIfInBounds_toArray]); (try simp only [List.set_cons_succ]); (try simp only [List.set_cons_zero])
                  refine wpLexP_skip ?_ ?_
                  focus exact unwanted_none rfl rfl
                  (simp only [Act.put, List.setIfInBounds_toArray]); (try simp only [List.set_cons_succ]); (try simp only [List.set_cons_zero])
                  refine wpLexP_skip ?_ ?_
                  focus exact unwanted_none rfl rfl
                  (simp only [Act.put, List.setIfInBounds_toArray]); (try simp only [List.set_cons_succ]); (try simp only [List.set_cons_zero])
                  refine wpLexP_skip ?_ ?_
                  focus exact unwanted_none rfl rfl
                  (simp only [Act.put, List.setIfInBounds_toArray]); (try simp only [List.set_cons_succ]); (try simp only [List.set_cons_zero])
                  refine wpLexP_skip ?_ ?_
                  focus exact unwanted rfl rfl rfl
                  (simp only [Act.put, List.setIfInBounds_toArray]); (try simp only [List.set_cons_succ]); (try simp only [List.set_cons_zero])
                  refine wpLexP_pure ?_ ?_ ?_ ?_
                  focus exact wanted_none rfl
                  rotate_left
                  focus (intro wq hq; go_simp; first | done | with_reducible rfl)
                  (simp only [Act.put, List.setIfInBounds_toArray]); (try simp only [List.set_cons_succ]); (try simp only [List.set_cons_zero])
                  refine wpLexP_pure ?_ ?_ ?_ ?_
                  focus exact wanted_none rfl
                  rotate_left
                  focus (intro wq hq; go_simp; first | done | with_reducible rfl)
                  (simp only [Act.put, List.setIfInBounds_toArray]); (try simp only [List.set_cons_succ]); (try simp only [List.set_cons_zero])
                  refine wpLexP_skip ?_ ?_
                  focus exact unwanted rfl rfl rfl
                  (simp only [Act.put, List.setIfInBounds_toArray]); (try simp only [List.set_cons_succ]); (try simp only [List.set_cons_zero])
                  refine wpLexP_skip ?_ ?_
                  focus exact unwanted rfl rfl rfl
                  (simp only [Act.put, List.setIfInBounds_toArray]); (try simp only [List.set_cons_succ]); (try simp only [List.set_cons_zero])
                  refine wpLexP_skip ?_ ?_
                  focus exact unwanted rfl rfl rfl
                  (simp only [Act.put, List.setIfInBounds_toArray]); (try simp only [List.set_cons_succ]); (try simp only [List.set_cons_zero])
                  refine wpLexP_skip ?_ ?_
                  focus exact unwanted rfl rfl rfl
                  (simp only [Act.put, List.setIfInBounds_toArray]); (try simp only [List.set_cons_succ]); (try simp only [List.set_cons_zero])
                  refine wpLexP_skip ?_ ?_
                  focus exact unwanted rfl rfl rfl
                  (simp only [Act.put, List.setIfInBounds_toArray]); (try simp only [List.set_cons_succ]); (try simp only [List.set_cons_zero])
                  refine wpLexP_pure ?_ ?_ ?_ ?_
                  focus exact wanted_none rfl
                  rotate_left
                  focus (intro wq hq; go_simp; first | done | with_reducible rfl)
                  (simp only [Act.put, List.setIfInBounds_toArray]); (try simp only [List.set_cons_succ]); (try simp only [List.set_cons_zero])
                  refine wpLexP_nil ?_
                  exact hT _ _ ⟨⟨_, _, _, _, _, _, _, _, _, _, _, _, _, _, _, _, _, _, _, _, _, _, _, _, _, rfl⟩, (by (repeat (first | with_reducible assumption | refine Since.alloc ?_ _ | refine Since.drew ?_ | refine Since.next ?_ (by with_reducible assumption)))), (not_may_back (V := V) hx (fun h => by have h9 := hr.2 h; rw [e1] at h9; cases h9))⟩
                case true =>
                  try simp only [e1]
                  refine wpLexP_pure ?_ ?_ ?_ ?_
                  focus exact wanted_none rfl
                  rotate_left
                  focus (intro wq hq; go_simp; first | done | with_reducible rfl)
                  (simp only [Act.put, List.setIfInBounds_toArray]); (try simp only [List.set_cons_succ]); (try simp only [List.set_cons_zero])
                  refine wpLexP_pure ?_ ?_ ?_ ?_
                  focus exact wanted_none rfl
                  rotate_left
                  focus (intro wq hq; go_simp; first | done | with_reducible rfl)
                  (simp only [Act.put, List.setIfInBounds_toArray]); (try simp only [List.set_cons_succ]); (try simp only [List.set_cons_zero])
                  refine wpLexP_pure ?_ ?_ ?_ ?_
                  focus exact wanted_yes rfl rfl
                  rotate_left
                  focus (intro wq hq; go_simp; first | done | with_reducible rfl)
                  (simp only [Act.put, List.setIfInBounds_toArray]); (try simp only [List.set_cons_succ]); (try simp only [List.set_cons_zero])
                  refine wpLexP_pure ?_ ?_ ?_ ?_
                  focus exact wanted_yes rfl rfl
                  rotate_left
                  focus (intro wq hq; go_simp; first | done | with_reducible rfl)
                  (simp only [Act.put, List.setIfInBounds_toArray]); (try simp only [List.set_cons_succ]); (try simp only [List.set_cons_zero])
                  cases e5 : decide ((0 : Int) < 0)
                  case false =>
                    try simp only [e5]
                    refine wpLexP_pure ?_ ?_ ?_ ?_
                    focus exact wanted_yes rfl rfl
                    rotate_left
                    focus (intro wq hq; go_simp; first | done | with_reducible rfl)
                    (simp only [Act.put, List.setIfInBounds_toArray]); (try simp only [List.set_cons_succ]); (try simp only [List.set_cons_zero])
                    refine wpLexP_skip ?_ ?_
                    focus exact unwanted rfl rfl rfl
                    (simp only [Act.put, List.setIfInBounds_toArray]); (try simp only [List.set_cons_succ]); (try simp only [List.set_cons_zero])
                    refine wpLexP_skip ?_ ?_
                    focus exact unwanted rfl rfl rfl
                    (simp only [Act.put, List.setIfInBounds_toArray]); (try simp only [List.set_cons_succ]); (try simp only [List.set_cons_zero])
                    refine wpLexP_skip ?_ ?_
                    focus exact unwanted rfl rfl rfl
                    (simp only [Act.put, List.setIfInBounds_toArray]); (try simp only [List.set_cons_succ]); (try simp only [List.set_cons_zero])
                    refine wpLexP_skip ?_ ?_
                    focus exact unwanted rfl rfl rfl
                    (simp only [Act.put, List.setIfInBounds_toArray]); (try simp only [List.set_cons_succ]); (try simp only [List.set_cons_zero])
                    refine wpLexP_skip ?_ ?_
                    focus exact unwanted rfl rfl rfl
                    (simp only [Act.put, List.setIfInBounds_toArray]); (try simp only [List.set_cons_succ]); (try simp only [List.set_cons_zero])
                    refine wpLexP_skip ?_ ?_
                    focus exact unwanted rfl rfl rfl
                    (simp only [Act.put, List.setIfInBounds_toArray]); (try simp only [List.set_cons_succ]); (try simp only [List.set_cons_zero])
                    refine wpLexP_skip ?_ ?_
                    focus exact unwanted rfl rfl rfl
                    (simp only [Act.put, List.setIfInBounds_toArray]); (try simp only [List.set_cons_succ]); (try simp only [List.set_cons_zero])
                    refine wpLexP_skip ?_ ?_
                    focus exact unwanted rfl rfl rfl
                    (simp only [Act.put, List.setIfInBounds_toArray]); (try simp only [List.set_cons_succ]); (try simp only [List.set_cons_zero])
                    refine wpLexP_skip ?_ ?_
                    focus exact unwanted rfl rfl rfl
                    (simp only [Act.put, List.setIfInBounds_toArray]); (try simp only [List.set_cons_succ]); (try simp only [List.set_cons_zero])
                    refine wpLexP_skip ?_ ?_
                    focus exact unwanted rfl rfl rfl
                    (simp only [Act.put, List.setIfInBounds_toArray]); (try simp only [List.set_cons_succ]); (try simp only [List.set_cons_zero])
                    refine wpLexP_pure ?_ ?_ ?_ ?_
                    focus exact wanted_yes rfl rfl
                    rotate_left
                    focus (intro wq hq; go_simp; first | done | with_reducible rfl)
                    (simp only [Act.put, List.setIfInBounds_toArray]); (try simp only [List.set_cons_succ]); (try simp only [List.set_cons_zero])
                    refine wpLexP_pure ?_ ?_ ?_ ?_
                    focus exact wanted_none rfl
                    rotate_left
                    focus (intro wq hq; go_simp; first | done | with_reducible rfl)
                    (simp only [Act.put, List.setIfInBounds_toArray]); (try simp only [List.set_cons_succ]); (try simp only [List.set_cons_zero])
                    refine wpLexP_pure ?_ ?_ ?_ ?_
                    focus exact wanted_none rfl
                    rotate_left
                    focus (intro wq hq; go_simp; first | done | with_reducible rfl)
                    (simp only [Act.put, List.setIfInBounds_toArray]); (try simp only [List.set_cons_succ]); (try simp only [List.set_cons_zero])
                    refine wpLexP_pure ?_ ?_ ?_ ?_
                    focus exact wanted_yes rfl rfl
                    rotate_left
                    focus (intro wq hq; go_simp; first | done | with_reducible rfl)
                    (simp only [Act.put, List.setIfInBounds_toArray]); (try simp only [List.set_cons_succ]); (try simp only [List.set_cons_zero])
                    refine wpLexP_pure ?_ ?_ ?_ ?_
                    focus exact wanted_yes rfl rfl
                    rotate_left
                    focus (intro wq hq; go_simp; first | done | with_reducible rfl)
                    (simp only [Act.put, List.setIfInBounds_toArray]); (try simp only [List.set_cons_succ]); (try simp only [List.set_cons_zero])
                    refine wpLexP_pure ?_ ?_ ?_ ?_
                    focus exact wanted_yes rfl rfl
                    rotate_left
                    focus (intro wq hq; go_simp; first | done | with_reducible rfl)
                    (simp only [Act.put, List.setIfInBounds_toArray]); (try simp only [List.set_cons_succ]); (try simp only [List.set_cons_zero])
                    refine wpLexP_solo ?_ (fun K hK => ?_)
                    focus exact wanted_yes rfl rfl
                    go_simp
                    go_at_call 43
                    refine (vipAt_any _ _ _ _ _ _ hlv (hrowD _ (by (repeat (first | with_reducible assumption | refine Since.alloc ?_ _ | refine Since.drew ?_ | refine Since.next ?_ (by with_reducible assumption)))))).mono ?_
                    rintro _ w2 ⟨i2, rfl, hi2, hb2⟩
                    refine hK.out _ _ ?_ ?_
                    focus (repeat (first | with_reducible assumption | refine Since.alloc ?_ _ | refine Since.drew ?_ | refine Since.next ?_ (by with_reducible assumption)))
                    clear hK K
                    try (simp only [Act.put, List.setIfInBounds_toArray]); (try simp only [List.set_cons_succ]); (try simp only [List.set_cons_zero])
                    refine wpLexP_pure ?_ ?_ ?_ ?_
                    focus exact wanted_yes rfl rfl
                    rotate_left
                    focus (intro wq hq; go_simp; first | done | with_reducible rfl)
                    (simp only [Act.put, List.setIfInBounds_toArray]); (try simp only [List.set_cons_succ]); (try simp only [List.set_cons_zero])
                    refine wpLexP_pure ?_ ?_ ?_ ?_
                    focus exact wanted_none rfl
                    rotate_left
                    focus (intro wq hq; go_simp; first | done | with_reducible rfl)
                    (simp only [Act.put, List.setIfInBounds_toArray]); (try simp only [List.set_cons_succ]); (try simp only [List.set_cons_zero])
                    refine wpLexP_nil ?_
                    by_cases heq : i2 < 0
                    · have hne : decide (i2 < 0) = true := by simpa using heq
                      (try simp only [hne])
                      exact hT _ _ ⟨⟨_, _, _, _, _, _, _, _, _, _, _, _, _, _, _, _, _, _, _, _, _, _, _, _, _, rfl⟩, (by (repeat (first | with_reducible assumption | refine Since.alloc ?_ _ | refine Since.drew ?_ | refine Since.next ?_ (by with_reducible assumption)))), (not_may_none hx ((firstAt_neg hi2).1 heq))⟩
                    · have hne : decide (i2 < 0) = false := by simpa using heq
                      (try simp only [hne])
                      exact hF _ _ ⟨⟨_, _, _, _, _, _, _, _, _, _, _, _, _, _, _, _, _, _, _, _, _, _, _, _, _, rfl⟩, (by (repeat (first | with_reducible assumption | refine Since.alloc ?_ _ | refine Since.drew ?_ | refine Since.next ?_ (by with_reducible assumption)))), hr.1 e1, (fun y h0 => by omega), Classical.byContradiction fun hn => heq ((firstAt_neg hi2).2 (fun v hv he => hn ⟨v, hv, he⟩))⟩
                  case true =>
                    (exfalso; revert e5; simp)
              · rintro a' w' ⟨⟨v72, v73, v74, v75, v76, v77, v78, v79, v80, v81, v82, v83, v84, v85, v86, v87, v88, v89, v90, v91, v92, v93, v94, v95, v96, rfl⟩, hS, hbad⟩
                simp only [List.take_succ_cons, List.take_zero, List.drop_succ_cons, List.drop_zero, List.drop_nil, List.cons_append, List.nil_append, List.append_nil]
                go_wp2_with fail
                go_ret
                exact AnsB.mk _ rfl (by simp [hbad]) ((Since.trans hw6 hS).below)
              · rintro a' w' ⟨⟨v72, v73, v74, v75, v76, v77, v78, v79, v80, v81, v82, v83, v84, v85, v86, v87, v88, v89, v90, v91, v92, v93, v94, v95, v96, rfl⟩, hS, hgood1, hgood2, hgood3⟩
                simp only [List.take_succ_cons, List.take_zero, List.drop_succ_cons, List.drop_zero, List.drop_nil, List.cons_append, List.nil_append, List.append_nil]
                go_wp2_with fail
                exact ⟨⟨0 + 1, (by omega), (by go_num), Since.trans hw16 hS, backsTo_step hx hgood1 hgood2 hgood3 hok⟩, (by simp only [intOf]; omega)⟩

            · have hy : B[k]? = some B[k] := List.getElem?_eq_getElem (by omega)
              obtain ⟨b2, o2, he2, y0, _⟩ := back_cells (hB.below hw6.below) hy
              injection he2 with he2; injection he2 with e1 e2 e3; subst e1 e2
              generalize B[k] = y at *
              have Y0 : ∀ w', Since (wr.alloc (.cells #[.int .i64 x.1, .int .i64 x.2.1, .int .u32 x.2.2.1, .int .i64 x.2.2.2.1, .int .i64 x.2.2.2.2.1, .bool x.2.2.2.2.2] 50)) w' → w'.cell? ⟨b, o + k * 6, none⟩ = some (.int .i64 y.1) := fun w' h => (h.below.cell (World.block_lt_of_cell? _ _ y0)).trans y0
              clear y0
              have hkw : IntKind.i64.wrap (k : Int) = (k : Int) := IntWalk.i64_in _ (by omega)
              have hkb0 : (0 : Int) ≤ (k : Int) := by omega
              have hkb1 : (k : Int) < (B.length : Int) := by omega
              go_wp2_with fail
              refine region_two (by intro c a d v w h; cases d <;> exact h) (fun a a' w' => out13 a true a' ∧ Since (wr.alloc (.cells #[.int .i64 x.1, .int .i64 x.2.1, .int .u32 x.2.2.1, .int .i64 x.2.2.2.1, .int .i64 x.2.2.2.2.1, .bool x.2.2.2.2.2] 50)) w' ∧ ¬ farmMay V B) (fun a a' w' => out13 a false a' ∧ Since (wr.alloc (.cells #[.int .i64 x.1, .int .i64 x.2.1, .int .u32 x.2.2.1, .int .i64 x.2.2.2.1, .int .i64 x.2.2.2.2.1, .bool x.2.2.2.2.2] 50)) w' ∧ (backMay x ∧ (∀ y, 0 < k + 1 → B[k + 1 - 1]? = some y → y.1 < x.1) ∧ ∃ v ∈ V, v.1 = x.2.1)) ?_ ?_ ?_
              · intro Q hQ hT hF
                go_light
                refine wp_region_lexp (Since (wr.alloc (.cells #[.int .i64 x.1, .int .i64 x.2.1, .int .u32 x.2.2.1, .int .i64 x.2.2.2.1, .int .i64 x.2.2.2.2.1, .bool x.2.2.2.2.2] 50))) [false, true, false, false, false, false, false, false, false, false, false, false, false, false, false, false, false, false, false, false, false, false, false, true, false, false] (by kernel_rfl) rright13_ok hQ (Since.refl _).drew ?_
                refine wpLexP_pure ?_ ?_ ?_ ?_
                focus exact wanted_none rfl
                rotate_left
                focus (intro wq hq; go_simp; first | done | with_reducible rfl)
                (simp only [Act.put, List.setIfInBounds_toArray]); (try simp only [List.set_cons_succ]); (try simp only [List.set_cons_zero])
                refine wpLexP_solo ?_ (fun K hK => ?_)
                focus exact wanted_none rfl
                go_simp
                go_at_call 59
                refine (goodBackend_any x hxw _).mono ?_
                rintro _ w1 ⟨r, rfl, hr, hb1⟩
                refine hK.out _ _ ?_ ?_
                focus (repeat (first | with_reducible assumption | refine Since.alloc ?_ _ | refine Since.drew ?_ | refine Since.next ?_ (by with_reducible assumption)))
                clear hK K
                try (simp only [Act.put, List.setIfInBounds_toArray]); (try simp only [List.set_cons_succ]); (try simp only [List.set_cons_zero])
                cases e1 : r
                case false =>
                  try simp only [e1]
                  refine wpLexP_pure ?_ ?_ ?_ ?_
                  focus exact wanted_none rfl
                  rotate_left
                  focus (intro wq hq; go_simp; first | done | with_reducible rfl)
                  (simp only [Act.put, List.setIfInBounds_toArray]); (try simp only [List.set_cons_succ]); (try simp only [List.set_cons_zero])
                  refine wpLexP_pure ?_ ?_ ?_ ?_
                  focus exact wanted_none rfl
                  rotate_left
                  focus (intro wq hq; go_simp; first | done | with_reducible rfl)
                  (simp only [Act.put, List.setIfInBounds_toArray]); (try simp only [List.set_cons_succ]); (try simp only [List.set_cons_zero])
                  refine wpLexP_skip ?_ ?_
                  focus exact unwanted rfl rfl rfl
                  (simp only [Act.put, List.setIfInBounds_toArray]); (try simp only [List.set_cons_succ]); (try simp only [List.set_cons_zero])
                  refine wpLexP_skip ?_ ?_
                  focus exact unwanted rfl rfl rfl
                  (simp only [Act.put, List.setIfInBounds_toArray]); (try simp only [List.set_cons_succ]); (try simp only [List.set_cons_zero])
                  refine wpLexP_skip ?_ ?_
                  focus exact unwanted rfl rfl rfl
                  (simp only [Act.put, List.setIfInBounds_toArray]); (try simp only [List.set_cons_succ]); (try simp only [List.set_cons_zero])
                  refine wpLexP_skip ?_ ?_
                  focus exact unwanted_none rfl rfl
                  (simp only [Act.put, List.setIfInBounds_toArray]); (try simp only [List.set_cons_succ]); (try simp only [List.set_cons_zero])
                  refine wpLexP_skip ?_ ?_
                  focus exact unwanted_none rfl rfl
                  (simp only [Act.put, List.setIfInBounds_toArray]); (try simp only [List.set_cons_succ]); (try simp only [List.set_cons_zero])
                  refine wpLexP_skip ?_ ?_
                  focus exact unwanted_none rfl rfl
                  (simp only [Act.put, List.setIfInBounds_toArray]); (try simp only [List.set_cons_succ]); (try simp only [List.set_cons_zero])
                  refine wpLexP_skip ?_ ?_
                  focus exact unwanted_none rfl rfl
                  (simp only [Act.put, List.setIfInBounds_toArray]); (try simp only [List.set_cons_succ]); (try simp only [List.set_cons_zero])
                  refine wpLexP_skip ?_ ?_
                  focus exact unwanted_none rfl rfl
                  (simp only [Act.put, List.setIfInBounds_toArray]); (try simp only [List.set_cons_succ]); (try simp only [List.set_cons_zero])
                  refine wpLexP_skip ?_ ?_
                  focus exact unwanted_none rfl rfl
                  (simp only [Act.put, List.setIfInBounds_toArray]); (try simp only [List.set_cons_succ]); (try simp only [List.set_cons_zero])
                  refine wpLexP_skip ?_ ?_
                  focus exact unwanted_none rfl rfl
                  (simp only [Act.put, List.setIfInBounds_toArray]); (try simp only [List.set_cons_succ]); (try simp only [List.set_cons_zero])
                  refine wpLexP_skip ?_ ?_
                  focus exact unwanted_none rfl rfl
                  (simp only [Act.put, List.setIfInBounds_toArray]); (try simp only [List.set_cons_succ]); (try simp only [List.set_cons_zero])
                  refine wpLexP_skip ?_ ?_
                  focus exact unwanted_none rfl rfl
                  (simp only [Act.put, List.setIfInBounds_toArray]); (try simp only [List.set_cons_succ]); (try simp only [List.set_cons_zero])
                  refine wpLexP_skip ?_ ?_
                  focus exact unwanted_none rfl rfl
                  (simp only [Act.put, List.setIfInBounds_toArray]); (try simp only [List.set_cons_succ]); (try simp only [List.set_cons_zero])
                  refine wpLexP_skip ?_ ?_
                  focus exact unwanted rfl rfl rfl
                  (simp only [Act.put, List.setIfInBounds_toArray]); (try simp only [List.set_cons_succ]); (try simp only [List.set_cons_zero])
                  refine wpLexP_pure ?_ ?_ ?_ ?_
                  focus exact wanted_none rfl
                  rotate_left
                  focus (intro wq hq; go_simp; first | done | with_reducible rfl)
                  (simp only [Act.put, List.setIfInBounds_toArray]); (try simp only [List.set_cons_succ]); (try simp only [List.set_cons_zero])
                  refine wpLexP_pure ?_ ?_ ?_ ?_
                  focus exact wanted_none rfl
                  rotate_left
                  focus (intro wq hq; go_simp; first | done | with_reducible rfl)
                  (simp only [Act.put, List.setIfInBounds_toArray]); (try simp only [List.set_cons_succ]); (try simp only [List.set_cons_zero])
                  refine wpLexP_skip ?_ ?_
                  focus exact unwanted rfl rfl rfl
                  (simp only [Act.put, List.setIfInBounds_toArray]); (try simp only [List.set_cons_succ]); (try simp only [List.set_cons_zero])
                  refine wpLexP_skip ?_ ?_
                  focus exact unwanted rfl rfl rfl
                  (simp only [Act.put, List.setIfInBounds_toArray]); (try simp only [List.set_cons_succ]); (try simp only [List.set_cons_zero])
                  refine wpLexP_skip ?_ ?_
                  focus exact unwanted rfl rfl rfl
                  (simp only [Act.put, List.setIfInBounds_toArray]); (try simp only [List.set_cons_succ]); (try simp only [List.set_cons_zero])
                  refine wpLexP_skip ?_ ?_
                  focus exact unwanted rfl rfl rfl
                  (simp only [Act.put, List.setIfInBounds_toArray]); (try simp only [List.set_cons_succ]); (try simp only [List.set_cons_zero])
                  refine wpLexP_skip ?_ ?_
                  focus exact unwanted rfl rfl rfl
                  (simp only [Act.put, List.setIfInBounds_toArray]); (try simp only [List.set_cons_succ]); (try simp only [List.set_cons_zero])
                  refine wpLexP_pure ?_ ?_ ?_ ?_
                  focus exact wanted_none rfl
                  rotate_left
                  focus (intro wq hq; go_simp; first | done | with_reducible rfl)
                  (simp only [Act.put, List.setIfInBounds_toArray]); (try simp only [List.set_cons_succ]); (try simp only [List.set_cons_zero])
                  refine wpLexP_nil ?_
                  exact hT _ _ ⟨⟨_, _, _, _, _, _, _, _, _, _, _, _, _, _, _, _, _, _, _, _, _, _, _, _, _, rfl⟩, (by (repeat (first | with_reducible assumption | refine Since.alloc ?_ _ | refine Since.drew ?_ | refine Since.next ?_ (by with_reducible assumption)))), (not_may_back (V := V) hx (fun h => by have h9 := hr.2 h; rw [e1] at h9; cases h9))⟩
                case true =>
                  try simp only [e1]
                  refine wpLexP_pure ?_ ?_ ?_ ?_
                  focus exact wanted_none rfl
                  rotate_left
                  focus (intro wq hq; go_simp; first | done | with_reducible rfl)
                  (simp only [Act.put, List.setIfInBounds_toArray]); (try simp only [List.set_cons_succ]); (try simp only [List.set_cons_zero])
                  refine wpLexP_pure ?_ ?_ ?_ ?_
                  focus exact wanted_none rfl
                  rotate_left
                  focus (intro wq hq; go_simp; first | done | with_reducible rfl)
                  (simp only [Act.put, List.setIfInBounds_toArray]); (try simp only [List.set_cons_succ]); (try simp only [List.set_cons_zero])
                  refine wpLexP_pure ?_ ?_ ?_ ?_
                  focus exact wanted_yes rfl rfl
                  rotate_left
                  focus (intro wq hq; go_simp; first | done | with_reducible rfl)
                  (simp only [Act.put, List.setIfInBounds_toArray]); (try simp only [List.set_cons_succ]); (try simp only [List.set_cons_zero])
                  refine wpLexP_pure ?_ ?_ ?_ ?_
                  focus exact wanted_yes rfl rfl
                  rotate_left
                  focus (intro wq hq; go_simp; first | done | with_reducible rfl)
                  (simp only [Act.put, List.setIfInBounds_toArray]); (try simp only [List.set_cons_succ]); (try simp only [List.set_cons_zero])
                  cases e5 : decide ((0 : Int) < (k : Int) + 1)
                  case false =>
                    (exfalso; revert e5; first | (simp; done) | (simp; omega))
                  case true =>
                    try simp only [e5]
                    refine wpLexP_pure ?_ ?_ ?_ ?_
                    focus exact wanted_yes rfl rfl
                    rotate_left
                    focus (intro wq hq; go_simp; first | done | with_reducible rfl)
                    (simp only [Act.put, List.setIfInBounds_toArray]); (try simp only [List.set_cons_succ]); (try simp only [List.set_cons_zero])
                    refine wpLexP_pure ?_ ?_ ?_ ?_
                    focus exact wanted_yes rfl rfl
                    rotate_left
                    focus (intro wq hq; go_simp; first | done | with_reducible rfl)
                    (simp only [Act.put, List.setIfInBounds_toArray]); (try simp only [List.set_cons_succ]); (try simp only [List.set_cons_zero])
                    refine wpLexP_pure ?_ ?_ ?_ ?_
                    focus exact wanted_yes rfl rfl
                    rotate_left
                    focus (intro wq hq; go_simp; first | done | with_reducible rfl)
                    (simp only [Act.put, List.setIfInBounds_toArray]); (try simp only [List.set_cons_succ]); (try simp only [List.set_cons_zero])
                    refine wpLexP_pure ?_ ?_ ?_ ?_
                    focus exact wanted_yes rfl rfl
                    rotate_left
                    focus (intro wq hq; go_simp; first | done | with_reducible rfl)
                    (simp only [Act.put, List.setIfInBounds_toArray]); (try simp only [List.set_cons_succ]); (try simp only [List.set_cons_zero])
                    refine wpLexP_pure ?_ ?_ ?_ ?_
                    focus exact wanted_yes rfl rfl
                    rotate_left
                    focus (intro wq hq; go_simp; first | done | with_reducible rfl)
                    (simp only [Act.put, List.setIfInBounds_toArray]); (try simp only [List.set_cons_succ]); (try simp only [List.set_cons_zero])
                    refine wpLexP_pure ?_ ?_ ?_ ?_
                    focus exact wanted_yes rfl rfl
                    rotate_left
                    focus (intro wq hq; go_simp; first | done | with_reducible rfl)
                    (simp only [Act.put, List.setIfInBounds_toArray]); (try simp only [List.set_cons_succ]); (try simp only [List.set_cons_zero])
                    refine wpLexP_pure ?_ ?_ ?_ ?_
                    focus exact wanted_yes rfl rfl
                    rotate_left
                    focus (intro wq hq; go_simp; first | done | with_reducible rfl)
                    (simp only [Act.put, List.setIfInBounds_toArray]); (try simp only [List.set_cons_succ]); (try simp only [List.set_cons_zero])
                    refine wpLexP_pure ?_ ?_ ?_ ?_
                    focus exact wanted_yes rfl rfl
                    rotate_left
                    focus (intro wq hq; go_simp; first | done | with_reducible rfl)
                    (simp only [Act.put, List.setIfInBounds_toArray]); (try simp only [List.set_cons_succ]); (try simp only [List.set_cons_zero])
                    refine wpLexP_pure ?_ ?_ ?_ ?_
                    focus exact wanted_yes rfl rfl
                    rotate_left
                    focus (intro wq hq; go_simp; first | done | with_reducible rfl)
                    (simp only [Act.put, List.setIfInBounds_toArray]); (try simp only [List.set_cons_succ]); (try simp only [List.set_cons_zero])
                    refine wpLexP_pure ?_ ?_ ?_ ?_
                    focus exact wanted_yes rfl rfl
                    rotate_left
                    focus (intro wq hq; go_simp; first | done | with_reducible rfl)
                    (simp only [Act.put, List.setIfInBounds_toArray]); (try simp only [List.set_cons_succ]); (try simp only [List.set_cons_zero])
                    refine wpLexP_pure ?_ ?_ ?_ ?_
                    focus exact wanted_yes rfl rfl
                    rotate_left
                    focus (intro wq hq; go_simp; first | done | with_reducible rfl)
                    (simp only [Act.put, List.setIfInBounds_toArray]); (try simp only [List.set_cons_succ]); (try simp only [List.set_cons_zero])
                    cases e15 : decide (x.1 ≤ y.1)
                    case false =>
                      try simp only [e15]
                      refine wpLexP_pure ?_ ?_ ?_ ?_
                      focus exact wanted_yes rfl rfl
                      rotate_left
                      focus (intro wq hq; go_simp; first | done | with_reducible rfl)
                      (simp only [Act.put, List.setIfInBounds_toArray]); (try simp only [List.set_cons_succ]); (try simp only [List.set_cons_zero])
                      refine wpLexP_pure ?_ ?_ ?_ ?_
                      focus exact wanted_none rfl
                      rotate_left
                      focus (intro wq hq; go_simp; first | done | with_reducible rfl)
                      (simp only [Act.put, List.setIfInBounds_toArray]); (try simp only [List.set_cons_succ]); (try simp only [List.set_cons_zero])
                      refine wpLexP_pure ?_ ?_ ?_ ?_
                      focus exact wanted_none rfl
                      rotate_left
                      focus (intro wq hq; go_simp; first | done | with_reducible rfl)
                      (simp only [Act.put, List.setIfInBounds_toArray]); (try simp only [List.set_cons_succ]); (try simp only [List.set_cons_zero])
                      refine wpLexP_pure ?_ ?_ ?_ ?_
                      focus exact wanted_yes rfl rfl
                      rotate_left
                      focus (intro wq hq; go_simp; first | done | with_reducible rfl)
                      (simp only [Act.put, List.setIfInBounds_toArray]); (try simp only [List.set_cons_succ]); (try simp only [List.set_cons_zero])
                      refine wpLexP_pure ?_ ?_ ?_ ?_
                      focus exact wanted_yes rfl rfl
                      rotate_left
                      focus (intro wq hq; go_simp; first | done | with_reducible rfl)
                      (simp only [Act.put, List.setIfInBounds_toArray]); (try simp only [List.set_cons_succ]); (try simp only [List.set_cons_zero])
                      refine wpLexP_pure ?_ ?_ ?_ ?_
                      focus exact wanted_yes rfl rfl
                      rotate_left
                      focus (intro wq hq; go_simp; first | done | with_reducible rfl)
                      (simp only [Act.put, List.setIfInBounds_toArray]); (try simp only [List.set_cons_succ]); (try simp only [List.set_cons_zero])
                      refine wpLexP_solo ?_ (fun K hK => ?_)
                      focus exact wanted_yes rfl rfl
                      go_simp
                      go_at_call 43
                      refine (vipAt_any _ _ _ _ _ _ hlv (hrowD _ (by (repeat (first | with_reducible assumption | refine Since.alloc ?_ _ | refine Since.drew ?_ | refine Since.next ?_ (by with_reducible assumption)))))).mono ?_
                      rintro _ w2 ⟨i2, rfl, hi2, hb2⟩
                      refine hK.out _ _ ?_ ?_
                      focus (repeat (first | with_reducible assumption | refine Since.alloc ?_ _ | refine Since.drew ?_ | refine Since.next ?_ (by with_reducible assumption)))
                      clear hK K
                      try (simp only [Act.put, List.setIfInBounds_toArray]); (try simp only [List.set_cons_succ]); (try simp only [List.set_cons_zero])
                      refine wpLexP_pure ?_ ?_ ?_ ?_
                      focus exact wanted_yes rfl rfl
                      rotate_left
                      focus (intro wq hq; go_simp; first | done | with_reducible rfl)
                      (simp only [Act.put, List.setIfInBounds_toArray]); (try simp only [List.set_cons_succ]); (try simp only [List.set_cons_zero])
                      refine wpLexP_pure ?_ ?_ ?_ ?_
                      focus exact wanted_none rfl
                      rotate_left
                      focus (intro wq hq; go_simp; first | done | with_reducible rfl)
                      (simp only [Act.put, List.setIfInBounds_toArray]); (try simp only [List.set_cons_succ]); (try simp only [List.set_cons_zero])
                      refine wpLexP_nil ?_
                      by_cases heq : i2 < 0
                      · have hne : decide (i2 < 0) = true := by simpa using heq
                        (try simp only [hne])
                        exact hT _ _ ⟨⟨_, _, _, _, _, _, _, _, _, _, _, _, _, _, _, _, _, _, _, _, _, _, _, _, _, rfl⟩, (by (repeat (first | with_reducible assumption | refine Since.alloc ?_ _ | refine Since.drew ?_ | refine Since.next ?_ (by with_reducible assumption)))), (not_may_none hx ((firstAt_neg hi2).1 heq))⟩
                      · have hne : decide (i2 < 0) = false := by simpa using heq
                        (try simp only [hne])
                        exact hF _ _ ⟨⟨_, _, _, _, _, _, _, _, _, _, _, _, _, _, _, _, _, _, _, _, _, _, _, _, _, rfl⟩, (by (repeat (first | with_reducible assumption | refine Since.alloc ?_ _ | refine Since.drew ?_ | refine Since.next ?_ (by with_reducible assumption)))), hr.1 e1, (fun z _ hz => by rw [Nat.add_sub_cancel, hy] at hz; injection hz with hz; subst hz; have := of_decide_eq_false e15; omega), Classical.byContradiction fun hn => heq ((firstAt_neg hi2).2 (fun v hv he => hn ⟨v, hv, he⟩))⟩
                    case true =>
                      try simp only [e15]
                      refine wpLexP_pure ?_ ?_ ?_ ?_
                      focus exact wanted_yes rfl rfl
                      rotate_left
                      focus (intro wq hq; go_simp; first | done | with_reducible rfl)
                      (simp only [Act.put, List.setIfInBounds_toArray]); (try simp only [List.set_cons_succ]); (try simp only [List.set_cons_zero])
                      refine wpLexP_pure ?_ ?_ ?_ ?_
                      focus exact wanted_none rfl
                      rotate_left
                      focus (intro wq hq; go_simp; first | done | with_reducible rfl)
                      (simp only [Act.put, List.setIfInBounds_toArray]); (try simp only [List.set_cons_succ]); (try simp only [List.set_cons_zero])
                      refine wpLexP_pure ?_ ?_ ?_ ?_
                      focus exact wanted_none rfl
                      rotate_left
                      focus (intro wq hq; go_simp; first | done | with_reducible rfl)
                      (simp only [Act.put, List.setIfInBounds_toArray]); (try simp only [List.set_cons_succ]); (try simp only [List.set_cons_zero])
                      refine wpLexP_skip ?_ ?_
                      focus exact unwanted rfl rfl rfl
                      (simp only [Act.put, List.setIfInBounds_toArray]); (try simp only [List.set_cons_succ]); (try simp only [List.set_cons_zero])
                      refine wpLexP_skip ?_ ?_
                      focus exact unwanted rfl rfl rfl
                      (simp only [Act.put, List.setIfInBounds_toArray]); (try simp only [List.set_cons_succ]); (try simp only [List.set_cons_zero])
                      refine wpLexP_skip ?_ ?_
                      focus exact unwanted rfl rfl rfl
                      (simp only [Act.put, List.setIfInBounds_toArray]); (try simp only [List.set_cons_succ]); (try simp only [List.set_cons_zero])
                      refine wpLexP_skip ?_ ?_
                      focus exact unwanted rfl rfl rfl
                      (simp only [Act.put, List.setIfInBounds_toArray]); (try simp only [List.set_cons_succ]); (try simp only [List.set_cons_zero])
                      refine wpLexP_skip ?_ ?_
                      focus exact unwanted rfl rfl rfl
                      (simp only [Act.put, List.setIfInBounds_toArray]); (try simp only [List.set_cons_succ]); (try simp only [List.set_cons_zero])
                      refine wpLexP_pure ?_ ?_ ?_ ?_
                      focus exact wanted_none rfl
                      rotate_left
                      focus (intro wq hq; go_simp; first | done | with_reducible rfl)
                      (simp only [Act.put, List.setIfInBounds_toArray]); (try simp only [List.set_cons_succ]); (try simp only [List.set_cons_zero])
                      refine wpLexP_nil ?_
                      exact hT _ _ ⟨⟨_, _, _, _, _, _, _, _, _, _, _, _, _, _, _, _, _, _, _, _, _, _, _, _, _, rfl⟩, (by (repeat (first | with_reducible assumption | refine Since.alloc ?_ _ | refine Since.drew ?_ | refine Since.next ?_ (by with_reducible assumption)))), (not_may_badj (V := V) hx hy (of_decide_eq_true e15))⟩
              · rintro a' w' ⟨⟨v72, v73, v74, v75, v76, v77, v78, v79, v80, v81, v82, v83, v84, v85, v86, v87, v88, v89, v90, v91, v92, v93, v94, v95, v96, rfl⟩, hS, hbad⟩
                simp only [List.take_succ_cons, List.take_zero, List.drop_succ_cons, List.drop_zero, List.drop_nil, List.cons_append, List.nil_append, List.append_nil]
                go_wp2_with fail
                go_ret
                exact AnsB.mk _ rfl (by simp [hbad]) ((Since.trans hw6 hS).below)
              · rintro a' w' ⟨⟨v72, v73, v74, v75, v76, v77, v78, v79, v80, v81, v82, v83, v84, v85, v86, v87, v88, v89, v90, v91, v92, v93, v94, v95, v96, rfl⟩, hS, hgood1, hgood2, hgood3⟩
                simp only [List.take_succ_cons, List.take_zero, List.drop_succ_cons, List.drop_zero, List.drop_nil, List.cons_append, List.nil_append, List.append_nil]
                go_wp2_with fail
                exact ⟨⟨k + 1 + 1, (by omega), (by go_num), Since.trans hw16 hS, backsTo_step hx hgood1 hgood2 hgood3 hok⟩, (by simp only [intOf]; omega)⟩

          · have hkb : k0 = B.length := by omega
            subst hkb
            go_wp2_with fail
            go_ret
            exact AnsB.mk _ rfl (by simp [may_all (by omega) (by omega) hok1 hok]) hbw.below
  · go_ret
    refine AnsB.mk _ rfl ?_ (below_alloc_first _ _)
    go_light
    simp [farmMay]; omega
end Go.Proofs.Ytghfefkmmobmgaa
