/-
  farm.Right of the program: which farms may be. Condition: the farm's rows read.
-/
import Derived.Test.YtghfefkmmobmgaaGreatFind
namespace Go.Proofs.YtghfefkmmobmgaaGreat
open Go.RowKit

theorem right1_asks (v : VipD) (b : Nat) (w : World) (L : List VipD) (h0 : w.cell? ⟨b, 0, none⟩ = some (.int .i64 v.1)) (h1 : w.cell? ⟨b, 1, none⟩ = some (.int .u32 v.2.1)) (h2 : w.cell? ⟨b, 2, none⟩ = some (.int .u16 v.2.2.1))
    (h3 : w.cell? ⟨b, 3, none⟩ = some (.int .u8 v.2.2.2.1)) (h4 : w.cell? ⟨b, 4, none⟩ = some (.int .i64 v.2.2.2.2)) :
    Asks vipV 28 (.pointer (some ⟨b, 0, none⟩)) (fun u => v.1 ≤ u.1 ∨ vipLike v u) w L := by
  intro u _ w' hb
  have g0 := (hb.cell (World.block_lt_of_cell? w _ h0)).trans h0
  have g1 := (hb.cell (World.block_lt_of_cell? w _ h1)).trans h1
  have g2 := (hb.cell (World.block_lt_of_cell? w _ h2)).trans h2
  have g3 := (hb.cell (World.block_lt_of_cell? w _ h3)).trans h3
  have g4 := (hb.cell (World.block_lt_of_cell? w _ h4)).trans h4
  have hlt := World.block_lt_of_cell? w' _ g0
  clear h0 h1 h2 h3 h4 hb
  have al : ∀ (o : Obj) (i : Nat) (x : Value), w'.cell? ⟨b, i, none⟩ = some x → (w'.alloc o).cell? ⟨b, i, none⟩ = some x := fun o i x hx => (World.cell?_alloc_lt w' o _ (by simpa using hlt)).trans hx
  have a0 := fun o => al o _ _ g0
  have a1 := fun o => al o _ _ g1
  have a2 := fun o => al o _ _ g2
  have a3 := fun o => al o _ _ g3
  have a4 := fun o => al o _ _ g4
  obtain ⟨id, addr, port, proto, mode⟩ := v
  obtain ⟨id2, addr2, port2, proto2, mode2⟩ := u
  simp only [vipV] at *
  go_enter Tryz.func28, Tryz.ntmps28
  go_wp2_with (first | (go_at_call 29; refine (like_any (id, addr, port, proto, mode) (id2, addr2, port2, proto2, mode2) _).mono ?_; rintro _ w1 ⟨r, rfl, hr, hb1⟩))
  all_goals go_ret
  all_goals refine AnsB.mk _ rfl ?_ (by first | exact below_alloc_first _ _ | exact below_step (below_alloc_first _ _) (by assumption))
  all_goals go_light
  all_goals grind [vipLike]

theorem right2_asks (v : BackD) (b : Nat) (w : World) (L : List BackD) (h0 : w.cell? ⟨b, 0, none⟩ = some (.int .i64 v.1)) : Asks backV 32 (.pointer (some ⟨b, 0, none⟩)) (fun u => v.1 ≤ u.1) w L := by
  intro u _ w' hb
  have g0 := (hb.cell (World.block_lt_of_cell? w _ h0)).trans h0
  have hlt := World.block_lt_of_cell? w' _ g0
  clear h0 hb
  have al : ∀ (o : Obj) (i : Nat) (x : Value), w'.cell? ⟨b, i, none⟩ = some x → (w'.alloc o).cell? ⟨b, i, none⟩ = some x := fun o i x hx => (World.cell?_alloc_lt w' o _ (by simpa using hlt)).trans hx
  have a0 := fun o => al o _ _ g0
  obtain ⟨id, vip, addr, weight, life, up⟩ := v
  obtain ⟨id2, vip2, addr2, weight2, life2, up2⟩ := u
  simp only [backV] at *
  go_enter Tryz.func32, Tryz.ntmps32
  go_wp2
  all_goals go_ret
  all_goals exact AnsB.mk _ rfl (by simp) (below_alloc_first _ _)

theorem vip1_asks (id : Int) (b : Nat) (w : World) (L : List VipD) (h0 : w.cell? ⟨b, 0, none⟩ = some (.int .i64 id)) : Asks vipV 49 (.pointer (some ⟨b, 0, none⟩)) (fun u => u.1 = id) w L := by
  intro u _ w' hb
  have g0 := (hb.cell (World.block_lt_of_cell? w _ h0)).trans h0
  have hlt := World.block_lt_of_cell? w' _ g0
  clear h0 hb
  have a0 : ∀ (o : Obj), (w'.alloc o).cell? ⟨b, 0, none⟩ = some (.int .i64 id) := fun o => (World.cell?_alloc_lt w' o _ (by simpa using hlt)).trans g0
  obtain ⟨id2, addr2, port2, proto2, mode2⟩ := u
  simp only [vipV] at *
  go_enter Tryz.func49, Tryz.ntmps49
  go_wp2
  all_goals go_ret
  all_goals exact AnsB.mk _ rfl (by simp) (below_alloc_first _ _)

theorem backend1_asks (id : Int) (b : Nat) (w : World) (L : List BackD) (h0 : w.cell? ⟨b, 0, none⟩ = some (.int .i64 id)) : Asks backV 76 (.pointer (some ⟨b, 0, none⟩)) (fun u => u.1 = id) w L := by
  intro u _ w' hb
  have g0 := (hb.cell (World.block_lt_of_cell? w _ h0)).trans h0
  have hlt := World.block_lt_of_cell? w' _ g0
  clear h0 hb
  have a0 : ∀ (o : Obj), (w'.alloc o).cell? ⟨b, 0, none⟩ = some (.int .i64 id) := fun o => (World.cell?_alloc_lt w' o _ (by simpa using hlt)).trans g0
  obtain ⟨id2, vip2, addr2, weight2, life2, up2⟩ := u
  simp only [backV] at *
  go_enter Tryz.func76, Tryz.ntmps76
  go_wp2
  all_goals go_ret
  all_goals exact AnsB.mk _ rfl (by simp) (below_alloc_first _ _)

theorem vip_any (pv : Option Addr) (sb : Value) (cv : Nat) (id : Int) (V : List VipD) (w : World) (hl : V.length ≤ 100) (hV : RowsAt w vipV 5 pv V) :
    Calls Tryz.prog 34 #[.agg #[.slice pv V.length cv, sb], .int .i64 id] w (AnsI w (firstAt (fun v : VipD => v.1 = id) V)) := by
  have hc := index_vip1 pv cv (.pointer (some ⟨w.heap.size + 1, 0, none⟩)) (fun v : VipD => v.1 = id) V ((w.alloc (.cells #[.slice pv V.length cv, sb] 31)).alloc (.cells #[.int .i64 id] 3)) hl
    (hV.below ((below_alloc_first w _).alloc (by simp) _)) (vip1_asks id _ _ _ (by simp))
  go_enter Tryz.func34, Tryz.ntmps34
  go_wp2_with (first | (go_at_call 46; refine hc.mono ?_; rintro _ w1 ⟨i, rfl, hi, hb1⟩))
  go_ret
  exact AnsI.mk _ rfl hi (below_next ((below_alloc_first w _).alloc (by simp) _) (by simp) hb1)

theorem backend_any (pb : Option Addr) (sv : Value) (cb : Nat) (id : Int) (B : List BackD) (w : World) (hl : B.length ≤ 100) (hB : RowsAt w backV 6 pb B) :
    Calls Tryz.prog 65 #[.agg #[sv, .slice pb B.length cb], .int .i64 id] w (AnsI w (firstAt (fun v : BackD => v.1 = id) B)) := by
  have hc := index_backend1 pb cb (.pointer (some ⟨w.heap.size + 1, 0, none⟩)) (fun v : BackD => v.1 = id) B ((w.alloc (.cells #[sv, .slice pb B.length cb] 31)).alloc (.cells #[.int .i64 id] 3)) hl
    (hB.below ((below_alloc_first w _).alloc (by simp) _)) (backend1_asks id _ _ _ (by simp))
  go_enter Tryz.func65, Tryz.ntmps65
  go_wp2_with (first | (go_at_call 48; refine hc.mono ?_; rintro _ w1 ⟨i, rfl, hi, hb1⟩))
  go_ret
  exact AnsI.mk _ rfl hi (below_next ((below_alloc_first w _).alloc (by simp) _) (by simp) hb1)

/-- Those up to a place are right. -/
def vipsTo (V : List VipD) (k : Nat) : Prop := ∀ (i : Nat) (v : VipD), i < k → V[i]? = some v → vipMay v ∧ ∀ (j : Nat) (u : VipD), j < i → V[j]? = some u → u.1 < v.1 ∧ ¬ vipLike v u
def backsTo (V : List VipD) (B : List BackD) (k : Nat) : Prop := ∀ (i : Nat) (b : BackD), i < k → B[i]? = some b → backMay b ∧ (∀ (j : Nat) (u : BackD), j < i → B[j]? = some u → u.1 < b.1) ∧ ∃ v ∈ V, v.1 = b.2.1

theorem take_mem {α : Type} {V : List α} {k j : Nat} {u : α} (hj : j < k) (hu : V[j]? = some u) : u ∈ V.take k :=
  List.mem_of_getElem? (i := j) (by rw [List.getElem?_take_of_lt hj]; exact hu)
theorem mem_take {α : Type} {V : List α} {k : Nat} {u : α} (h : u ∈ V.take k) : ∃ j, j < k ∧ V[j]? = some u := by
  obtain ⟨j, hj, rfl⟩ := List.mem_iff_getElem.1 h
  have h1 : j < k := by simp at hj; omega
  exact ⟨j, h1, by rw [List.getElem_take]; exact List.getElem?_eq_getElem _⟩

theorem not_may_met {V : List VipD} {B : List BackD} {k : Nat} {x : VipD} (hx : V[k]? = some x) (h : ∃ u ∈ V.take k, x.1 ≤ u.1 ∨ vipLike x u) : ¬ farmMay V B := by
  rintro ⟨_, _, h3, _⟩
  obtain ⟨u, hu, h4⟩ := h
  obtain ⟨j, hj, hju⟩ := mem_take hu
  obtain ⟨h5, h6⟩ := (h3 k x hx).2 j u hj hju
  rcases h4 with h4 | h4
  · omega
  · exact h6 h4
theorem not_may_vip {V : List VipD} {B : List BackD} {k : Nat} {x : VipD} (hx : V[k]? = some x) (h : ¬ vipMay x) : ¬ farmMay V B := fun hm => h (hm.2.2.1 k x hx).1
theorem vipsTo_next {V : List VipD} {k : Nat} {x : VipD} (hx : V[k]? = some x) (hmet : ¬ ∃ u ∈ V.take k, x.1 ≤ u.1 ∨ vipLike x u) (hm : vipMay x) (h : vipsTo V k) : vipsTo V (k + 1) := by
  intro i v hi hv
  rcases Nat.lt_succ_iff_lt_or_eq.1 hi with hi | rfl
  · exact h i v hi hv
  · rw [hx] at hv; injection hv with hv; subst hv
    refine ⟨hm, fun j u hj hu => ⟨?_, fun hl => hmet ⟨u, take_mem hj hu, .inr hl⟩⟩⟩
    have h1 : ¬ x.1 ≤ u.1 := fun hle => hmet ⟨u, take_mem hj hu, .inl hle⟩
    omega
theorem not_may_bmet {V : List VipD} {B : List BackD} {k : Nat} {x : BackD} (hx : B[k]? = some x) (h : ∃ u ∈ B.take k, x.1 ≤ u.1) : ¬ farmMay V B := by
  rintro ⟨_, _, _, h3⟩
  obtain ⟨u, hu, h4⟩ := h
  obtain ⟨j, hj, hju⟩ := mem_take hu
  have h5 := (h3 k x hx).2.1 j u hj hju
  omega
theorem not_may_back {V : List VipD} {B : List BackD} {k : Nat} {x : BackD} (hx : B[k]? = some x) (h : ¬ backMay x) : ¬ farmMay V B := fun hm => h (hm.2.2.2 k x hx).1
theorem not_may_none {V : List VipD} {B : List BackD} {k : Nat} {x : BackD} (hx : B[k]? = some x) (h : ∀ v ∈ V, ¬ v.1 = x.2.1) : ¬ farmMay V B := fun hm => by
  obtain ⟨v, hv, h1⟩ := (hm.2.2.2 k x hx).2.2
  exact h v hv h1
theorem backsTo_next {V : List VipD} {B : List BackD} {k : Nat} {x : BackD} (hx : B[k]? = some x) (hmet : ¬ ∃ u ∈ B.take k, x.1 ≤ u.1) (hm : backMay x) (hv : ∃ v ∈ V, v.1 = x.2.1) (h : backsTo V B k) : backsTo V B (k + 1) := by
  intro i v hi hvv
  rcases Nat.lt_succ_iff_lt_or_eq.1 hi with hi | rfl
  · exact h i v hi hvv
  · rw [hx] at hvv; injection hvv with hvv; subst hvv
    refine ⟨hm, fun j u hj hu => ?_, hv⟩
    have h1 : ¬ x.1 ≤ u.1 := fun hle => hmet ⟨u, take_mem hj hu, hle⟩
    omega
theorem may_all {V : List VipD} {B : List BackD} (h1 : V.length ≤ 4) (h2 : B.length ≤ 16) (hv : vipsTo V V.length) (hb : backsTo V B B.length) : farmMay V B :=
  ⟨h1, h2, fun i v h => hv i v (List.getElem?_eq_some_iff.1 h).1 h, fun i b h => hb i b (List.getElem?_eq_some_iff.1 h).1 h⟩

set_option maxHeartbeats 1000000 in
theorem right_any (pv pb : Option Addr) (cv cb : Nat) (V : List VipD) (B : List BackD) (w : World) (hlv : V.length ≤ 100) (hlb : B.length ≤ 100) (hcv : V.length ≤ cv) (hcb : B.length ≤ cb) (hV : RowsAt w vipV 5 pv V) (hB : RowsAt w backV 6 pb B) (wV : ∀ v ∈ V, vipW v) (wB : ∀ b ∈ B, backW b) :
    Calls Tryz.prog 11 #[.agg #[.slice pv V.length cv, .slice pb B.length cb]] w (AnsB w (farmMay V B)) := by
  go_enter Tryz.func11, Tryz.ntmps11
  go_wp2
  · go_ret
    refine AnsB.mk _ rfl ?_ (below_alloc_first _ _)
    go_light
    simp [farmMay]; omega
  · go_loopw [3, 4, 22] (fun _ _ i wr => ∃ k : Nat, k ≤ V.length ∧ i = .int .i64 k ∧ Below (w.heap.size + 1) (w.alloc (.cells #[.slice pv V.length cv, .slice pb B.length cb] 31)) wr ∧ vipsTo V k) (fun _ _ i => fun _ => V.length - (intOf i).toNat)
    case atStart => exact ⟨0, Nat.zero_le _, rfl, Below.refl _ _, fun i v h => by omega⟩
    case round =>
      obtain ⟨k, hk, rfl, hb, hok⟩ := hrel
      have hbw : Below w.heap.size w wr := (below_alloc_first w _).trans (hb.mono (by omega))
      have f0 : wr.cell? ⟨w.heap.size, 0, none⟩ = some (.slice pv V.length cv) := (hb.cell (by simp)).trans (by simp)
      have f1 : wr.cell? ⟨w.heap.size, 1, none⟩ = some (.slice pb B.length cb) := (hb.cell (by simp)).trans (by simp)
      by_cases hkl : k < V.length
      · have hx : V[k]? = some V[k] := List.getElem?_eq_getElem hkl
        obtain ⟨b, o, rfl, h0, h1, h2, h3, h4⟩ := vip_cells (hV.below hbw) hx
        have hxV : V[k] ∈ V := List.getElem_mem hkl
        generalize V[k] = x at *
        have hlt : w.heap.size < wr.heap.size := by have := hb.size; simp at this; omega
        have fa : ∀ (ob : Obj) (i : Nat) (u : Value), wr.cell? ⟨w.heap.size, i, none⟩ = some u → (wr.alloc ob).cell? ⟨w.heap.size, i, none⟩ = some u := fun ob i u hu => (World.cell?_alloc_lt wr ob _ (by simpa using hlt)).trans hu
        have f0a := fun ob => fa ob 0 _ f0
        have f1a := fun ob => fa ob 1 _ f1
        have hcont := contains_right1 (some ⟨b, o, none⟩) cv (.pointer (some ⟨wr.heap.size, 0, none⟩)) (fun u => x.1 ≤ u.1 ∨ vipLike x u) (V.take k) (wr.alloc (.cells #[.int .i64 x.1, .int .u32 x.2.1, .int .u16 x.2.2.1, .int .u8 x.2.2.2.1, .int .i64 x.2.2.2.2] 48))
          (by first | (simp; done) | (simp; omega)) (((hV.below hbw).below (below_alloc_first _ _)).take k) (right1_asks x _ _ _ (by simp) (by simp) (by simp) (by simp) (by simp))
        rw [List.length_take, Nat.min_eq_left hk] at hcont
        have HC := Lib.hid hcont
        clear hcont fa
        go_wp2_with (first
          | (go_at_call 27; refine HC.out.mono ?_; rintro _ w1 ⟨r, rfl, hr, hb1⟩
             have g0 : w1.cell? ⟨wr.heap.size, 0, none⟩ = some (.int .i64 x.1) := (hb1.cell (by simp)).trans (by simp)
             have g1 : w1.cell? ⟨wr.heap.size, 1, none⟩ = some (.int .u32 x.2.1) := (hb1.cell (by simp)).trans (by simp)
             have g2 : w1.cell? ⟨wr.heap.size, 2, none⟩ = some (.int .u16 x.2.2.1) := (hb1.cell (by simp)).trans (by simp)
             have g3 : w1.cell? ⟨wr.heap.size, 3, none⟩ = some (.int .u8 x.2.2.2.1) := (hb1.cell (by simp)).trans (by simp)
             have g4 : w1.cell? ⟨wr.heap.size, 4, none⟩ = some (.int .i64 x.2.2.2.2) := (hb1.cell (by simp)).trans (by simp))
          | (go_at_call 30; refine (mayVip_any x (wV x hxV) _).mono ?_; rintro _ w2 ⟨r2, rfl, hr2, hb2⟩))
        · go_ret
          exact AnsB.mk _ rfl (by simp [not_may_met (B := B) hx (hr.1 (by assumption))]) (below_next (hbw.alloc (by omega) _) (by have hs1 := hb.size; have hs2 := hb1.size; first | omega | (simp at hs1 hs2 ⊢; done) | (simp at hs1 hs2 ⊢; omega) | (simp at hs1 hs2; omega)) hb1)
        · have hb12 := below_next (hbw.alloc (by omega) _) (by have hs1 := hb.size; have hs2 := hb1.size; first | omega | (simp at hs1 hs2 ⊢; done) | (simp at hs1 hs2 ⊢; omega) | (simp at hs1 hs2; omega)) hb1
          go_ret
          refine AnsB.mk _ rfl ?_ (below_next hb12 (by have hs1 := hb.size; have hs2 := hb1.size; first | omega | (simp at hs1 hs2 ⊢; done) | (simp at hs1 hs2 ⊢; omega) | (simp at hs1 hs2; omega)) hb2)
          have h2 : r2 = false := by simpa using (show (!r2) = true by assumption)
          simp [not_may_vip (B := B) hx (fun h => by rw [hr2.2 h] at h2; cases h2)]
        · have h2 : r2 = true := by simpa using (show (!r2) = false by assumption)
          have hmet : ¬ ∃ u ∈ V.take k, x.1 ≤ u.1 ∨ vipLike x u := fun h => (show ¬ r = true by assumption) (hr.2 h)
          refine ⟨⟨k + 1, by omega, by go_num, ?_, vipsTo_next hx hmet (hr2.1 h2) hok⟩, by simp only [intOf]; omega⟩
          exact below_next (below_next (hb.alloc (by omega) _) (by have hs1 := hb.size; have hs2 := hb1.size; first | omega | (simp at hs1 hs2 ⊢; done) | (simp at hs1 hs2 ⊢; omega) | (simp at hs1 hs2; omega)) hb1) (by have hs1 := hb.size; have hs2 := hb1.size; first | omega | (simp at hs1 hs2 ⊢; done) | (simp at hs1 hs2 ⊢; omega) | (simp at hs1 hs2; omega)) hb2
      · have hkv : k = V.length := by omega
        subst hkv
        go_wp2_with fail
        have hok1 := hok
        clear hok hk hkl f0 f1 hbw
        have hb0 := hb
        clear hb
        go_loopw [6, 7, 43] (fun _ _ i wr => ∃ k : Nat, k ≤ B.length ∧ i = .int .i64 k ∧ Below (w.heap.size + 1) (w.alloc (.cells #[.slice pv V.length cv, .slice pb B.length cb] 31)) wr ∧ backsTo V B k) (fun _ _ i => fun _ => B.length - (intOf i).toNat)
        case atStart => exact ⟨0, Nat.zero_le _, rfl, hb0, fun i v h => by omega⟩
        case round =>
          clear hb0
          obtain ⟨k, hk, rfl, hb, hok⟩ := hrel
          rename_i wr
          have hbw : Below w.heap.size w wr := (below_alloc_first w _).trans (hb.mono (by omega))
          have f0 : wr.cell? ⟨w.heap.size, 0, none⟩ = some (.slice pv V.length cv) := (hb.cell (by simp)).trans (by simp)
          have f1 : wr.cell? ⟨w.heap.size, 1, none⟩ = some (.slice pb B.length cb) := (hb.cell (by simp)).trans (by simp)
          by_cases hkl : k < B.length
          · have hx : B[k]? = some B[k] := List.getElem?_eq_getElem hkl
            obtain ⟨b, o, rfl, h0, h1, h2, h3, h4, h5⟩ := back_cells (hB.below hbw) hx
            have hxB : B[k] ∈ B := List.getElem_mem hkl
            generalize B[k] = x at *
            have hlt : w.heap.size < wr.heap.size := by have := hb.size; simp at this; omega
            have fa : ∀ (ob : Obj) (i : Nat) (u : Value), wr.cell? ⟨w.heap.size, i, none⟩ = some u → (wr.alloc ob).cell? ⟨w.heap.size, i, none⟩ = some u := fun ob i u hu => (World.cell?_alloc_lt wr ob _ (by simpa using hlt)).trans hu
            have f0a := fun ob => fa ob 0 _ f0
            have f1a := fun ob => fa ob 1 _ f1
            have hcont := contains_right2 (some ⟨b, o, none⟩) cb (.pointer (some ⟨wr.heap.size, 0, none⟩)) (fun u => x.1 ≤ u.1) (B.take k) (wr.alloc (.cells #[.int .i64 x.1, .int .i64 x.2.1, .int .u32 x.2.2.1, .int .i64 x.2.2.2.1, .int .i64 x.2.2.2.2.1, .bool x.2.2.2.2.2] 50))
              (by first | (simp; done) | (simp; omega)) (((hB.below hbw).below (below_alloc_first _ _)).take k) (right2_asks x _ _ _ (by simp))
            rw [List.length_take, Nat.min_eq_left hk] at hcont
            have HC := Lib.hid hcont
            clear hcont fa
            go_wp2_with (first
              | (go_at_call 31; refine HC.out.mono ?_; rintro _ w1 ⟨r, rfl, hr, hb1⟩
                 have g0 : w1.cell? ⟨wr.heap.size, 0, none⟩ = some (.int .i64 x.1) := (hb1.cell (by simp)).trans (by simp)
                 have g1 : w1.cell? ⟨wr.heap.size, 1, none⟩ = some (.int .i64 x.2.1) := (hb1.cell (by simp)).trans (by simp)
                 have g2 : w1.cell? ⟨wr.heap.size, 2, none⟩ = some (.int .u32 x.2.2.1) := (hb1.cell (by simp)).trans (by simp)
                 have g3 : w1.cell? ⟨wr.heap.size, 3, none⟩ = some (.int .i64 x.2.2.2.1) := (hb1.cell (by simp)).trans (by simp)
                 have g4 : w1.cell? ⟨wr.heap.size, 4, none⟩ = some (.int .i64 x.2.2.2.2.1) := (hb1.cell (by simp)).trans (by simp)
                 have g5 : w1.cell? ⟨wr.heap.size, 5, none⟩ = some (.bool x.2.2.2.2.2) := (hb1.cell (by simp)).trans (by simp)
                 have k0 : w1.cell? ⟨w.heap.size, 0, none⟩ = some (.slice pv V.length cv) := (hb1.cell (by first | (simp; done) | (simp; omega))).trans (f0a _)
                 have k1 : w1.cell? ⟨w.heap.size, 1, none⟩ = some (.slice (some ⟨b, o, none⟩) B.length cb) := (hb1.cell (by first | (simp; done) | (simp; omega))).trans (f1a _)
                 have hbw1 : Below w.heap.size w w1 := below_next (hbw.alloc (by omega) _) (by first | (simp; done) | (simp; omega)) hb1)
              | (go_at_call 33; refine (mayBackend_any x (wB x hxB) _).mono ?_; rintro _ w2 ⟨r2, rfl, hr2, hb2⟩
                 have m1 : w2.cell? ⟨wr.heap.size, 1, none⟩ = some (.int .i64 x.2.1) := (hb2.cell (World.block_lt_of_cell? _ _ g1)).trans g1
                 have n0 : w2.cell? ⟨w.heap.size, 0, none⟩ = some (.slice pv V.length cv) := (hb2.cell (World.block_lt_of_cell? _ _ k0)).trans k0
                 have n1 : w2.cell? ⟨w.heap.size, 1, none⟩ = some (.slice (some ⟨b, o, none⟩) B.length cb) := (hb2.cell (World.block_lt_of_cell? _ _ k1)).trans k1
                 have hbw2 : Below w.heap.size w w2 := below_step hbw1 hb2)
              | (go_at_call 34; refine (vip_any pv _ cv x.2.1 V _ hlv (hV.below hbw2)).mono ?_; rintro _ w3 ⟨i3, rfl, hi3, hb3⟩))
            all_goals try (exfalso; simp_all; done)
            · go_ret
              exact AnsB.mk _ rfl (by simp [not_may_bmet (V := V) hx (hr.1 (by assumption))]) hbw1
            · have hor : (!r2) = true ∨ i3 < 0 := by assumption
              go_ret
              refine AnsB.mk _ rfl ?_ (below_step hbw2 hb3)
              rcases hor with h2 | h2
              · have h2 : r2 = false := by simpa using h2
                simp [not_may_back (V := V) hx (fun h => by rw [hr2.2 h] at h2; cases h2)]
              · simp [not_may_none hx ((firstAt_neg hi3).1 h2)]
            · have hand : (!r2) = false ∧ 0 ≤ i3 := by assumption
              have h2 : r2 = true := by simpa using hand.1
              have hmet : ¬ ∃ u ∈ B.take k, x.1 ≤ u.1 := fun h => (show ¬ r = true by assumption) (hr.2 h)
              have hvv : ∃ v ∈ V, v.1 = x.2.1 := by
                refine Classical.byContradiction fun hn => ?_
                have h3 := (firstAt_neg hi3).2 (fun v hv he => hn ⟨v, hv, he⟩)
                omega
              refine ⟨⟨k + 1, by omega, by go_num, ?_, backsTo_next hx hmet (hr2.1 h2) hvv hok⟩, by simp only [intOf]; omega⟩
              exact below_next (below_next (below_next (hb.alloc (by omega) _) (by have hs1 := hb.size; have hs2 := hb1.size; have hs3 := hb2.size; first | omega | (simp at hs1 hs2 ⊢; done) | (simp at hs1 hs2 ⊢; omega) | (simp at hs1 hs2; omega)) hb1) (by have hs1 := hb.size; have hs2 := hb1.size; have hs3 := hb2.size; first | omega | (simp at hs1 hs2 ⊢; done) | (simp at hs1 hs2 ⊢; omega) | (simp at hs1 hs2; omega)) hb2) (by have hs1 := hb.size; have hs2 := hb1.size; have hs3 := hb2.size; first | omega | (simp at hs1 hs2 ⊢; done) | (simp at hs1 hs2 ⊢; omega) | (simp at hs1 hs2; omega)) hb3
            · have h2 : (!r2) = true := by
                have h3 : ¬ ((!r2) == false) = true := by assumption
                cases r2 <;> simp_all
              go_ret
              refine AnsB.mk _ rfl ?_ hbw2
              have h2 : r2 = false := by simpa using h2
              simp [not_may_back (V := V) hx (fun h => by rw [hr2.2 h] at h2; cases h2)]
          · have hkb : k = B.length := by omega
            subst hkb
            go_wp2
            go_ret
            exact AnsB.mk _ rfl (by simp [may_all (by omega) (by omega) hok1 hok]) hbw
  · go_ret
    refine AnsB.mk _ rfl ?_ (below_alloc_first _ _)
    go_light
    simp [farmMay]; omega
end Go.Proofs.YtghfefkmmobmgaaGreat
