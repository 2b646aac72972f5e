/-
  Orders done one behind the other, plainly: what each does to the members of a farm. No condition.
  The orders between two farms, done, make the one into the other one: plainly. No condition.
  The orders between two farms, done, make the one into the other one: backends; the whole. No condition.
  The law DiffMakes, plainly: the orders between two farms, done by number; who is up stays so. No condition.
  The law DiffSame: the program's Apply, for orders of which one can't be done; between a farm and one like it there is nothing. Conditions: numbers are of their types.
  The law DiffSame, by value. Conditions: numbers are of their types.
-/
import Derived.Test.YtghfefkmmobmgaaGreatK3
namespace Go.Proofs.YtghfefkmmobmgaaGreat.V
open Go.RowKit

/-! ### Rows sorted by a key -/
theorem sorted_sub {α : Type} {key : α → Int} : ∀ {l m : List α}, l.Pairwise (fun x y => key x < key y) → m.Pairwise (fun x y => key x < key y) → (∀ x, x ∈ l → x ∈ m) → l.Sublist m
  | [], m, _, _, _ => List.nil_sublist m
  | x :: l, [], _, _, h => absurd (h x List.mem_cons_self) (by simp)
  | x :: l, y :: m, hl, hm, h => by
    have hl' := List.pairwise_cons.1 hl
    have hm' := List.pairwise_cons.1 hm
    by_cases hxy : x = y
    · subst hxy
      refine List.Sublist.cons_cons x (sorted_sub hl'.2 hm'.2 fun z hz => ?_)
      rcases List.mem_cons.1 (h z (List.mem_cons_of_mem _ hz)) with rfl | hz2
      · have := hl'.1 z hz; omega
      · exact hz2
    · refine List.Sublist.cons y (sorted_sub hl hm'.2 fun z hz => ?_)
      have hx : x ∈ m := (List.mem_cons.1 (h x List.mem_cons_self)).resolve_left hxy
      rcases List.mem_cons.1 (h z hz) with rfl | hz2
      · rcases List.mem_cons.1 hz with e | hz3
        · exact absurd e.symm hxy
        · have h1 := hl'.1 _ hz3
          have h2 := hm'.1 x hx
          omega
      · exact hz2
theorem sorted_ext {α : Type} {key : α → Int} {l m : List α} (hl : l.Pairwise (fun x y => key x < key y)) (hm : m.Pairwise (fun x y => key x < key y)) (h : ∀ x, x ∈ l ↔ x ∈ m) : l = m := by
  have h1 := sorted_sub hl hm fun x hx => (h x).1 hx
  have h2 := sorted_sub hm hl fun x hx => (h x).2 hx
  exact h1.eq_of_length (Nat.le_antisymm h1.length_le h2.length_le)
theorem key_inj {α : Type} {key : α → Int} {l : List α} (hl : l.Pairwise (fun x y => key x < key y)) {x y : α} (hx : x ∈ l) (hy : y ∈ l) (h : key x = key y) : x = y := by
  obtain ⟨i, hi⟩ := List.mem_iff_getElem?.1 hx
  obtain ⟨j, hj⟩ := List.mem_iff_getElem?.1 hy
  rcases Nat.lt_trichotomy i j with h1 | rfl | h1
  · have := pairwise_get.1 hl j i y x h1 hj hi; omega
  · rw [hi] at hj; injection hj
  · have := pairwise_get.1 hl i j x y h1 hi hj; omega
theorem mem_set_key {α : Type} {key : α → Int} {l : List α} (hl : l.Pairwise (fun x y => key x < key y)) {i : Nat} {x y u : α} (hx : l[i]? = some x) : u ∈ l.set i y ↔ (u ∈ l ∧ key u ≠ key x) ∨ u = y := by
  have hi := (List.getElem?_eq_some_iff.1 hx).1
  constructor
  · intro h
    obtain ⟨j, hj⟩ := List.mem_iff_getElem?.1 h
    rcases set_get hj with ⟨_, h1, _⟩ | ⟨h0, h1⟩
    · exact .inr h1
    · refine .inl ⟨List.mem_of_getElem? h1, fun he => h0 ?_⟩
      rcases Nat.lt_trichotomy j i with h2 | h2 | h2
      · have := pairwise_get.1 hl i j x u h2 hx h1; omega
      · exact h2
      · have := pairwise_get.1 hl j i u x h2 h1 hx; omega
  · rintro (⟨h, hne⟩ | rfl)
    · obtain ⟨j, hj⟩ := List.mem_iff_getElem?.1 h
      have hji : j ≠ i := by
        rintro rfl
        rw [hx] at hj; injection hj with hj; subst hj
        exact hne rfl
      exact List.mem_of_getElem? (i := j) (by rw [List.getElem?_set_ne (fun e => hji e.symm)]; exact hj)
    · exact List.mem_of_getElem? (List.getElem?_set_self hi)
theorem find_mem {α : Type} {key : α → Int} {l : List α} (hl : l.Pairwise (fun x y => key x < key y)) {x : α} (hx : x ∈ l) : ∃ i : Nat, findI (fun u => decide (key u = key x)) l = i ∧ l[i]? = some x := by
  rcases findI_cases (fun u => decide (key u = key x)) l with ⟨_, h2⟩ | ⟨k, y, h1, h2, h3, _⟩
  · have := h2 x hx; simp at this
  · have hyx := key_inj hl (List.mem_of_getElem? h2) hx (of_decide_eq_true h3)
    subst hyx
    exact ⟨k, h1, h2⟩
theorem find_none {α : Type} {key : α → Int} {l : List α} {n : Int} (h : ∀ x ∈ l, key x ≠ n) : findI (fun u => decide (key u = n)) l = -1 := by
  refine findI_none fun j u _ hu => ?_
  exact decide_eq_false (h u (List.mem_of_getElem? hu))
theorem at_mem {V : List Vip} (hl : V.Pairwise (fun x y => x.id < y.id)) {x : Vip} (hx : x ∈ V) : atV x.id V = some x := by
  obtain ⟨i, h1, h2⟩ := find_mem (key := Vip.id) hl hx
  unfold atV getAt
  rw [h1, decide_eq_false (by omega : ¬ (i : Int) < 0)]
  exact h2
theorem atb_mem {V : List Back} (hl : V.Pairwise (fun x y => x.id < y.id)) {x : Back} (hx : x ∈ V) : atB x.id V = some x := by
  obtain ⟨i, h1, h2⟩ := find_mem (key := Back.id) hl hx
  unfold atB getAt
  rw [h1, decide_eq_false (by omega : ¬ (i : Int) < 0)]
  exact h2
theorem atV_mem {id : Int} {B : List Vip} {x : Vip} (h : atV id B = some x) : x ∈ B := by
  unfold atV at h
  rcases found (fun b : Vip => decide (b.id = id)) B with ⟨_, h2⟩ | ⟨k, y, _, h2, h3⟩
  · rw [h2] at h; cases h
  · rw [h2] at h; injection h with h; subst h; exact List.mem_of_getElem? h3
theorem atV_no {id : Int} {B : List Vip} (h : atV id B = none) : ∀ x ∈ B, x.id ≠ id := by
  intro x hx he
  rcases found (fun b : Vip => decide (b.id = id)) B with ⟨h1, _⟩ | ⟨k, y, _, h2, h3⟩
  · rcases findI_cases (fun b : Vip => decide (b.id = id)) B with ⟨_, h4⟩ | ⟨k, y, h4, _⟩
    · have := h4 x hx; simp [he] at this
    · omega
  · unfold atV at h; rw [h2] at h; cases h
theorem atB_no {id : Int} {B : List Back} (h : atB id B = none) : ∀ x ∈ B, x.id ≠ id := by
  intro x hx he
  rcases found (fun b : Back => decide (b.id = id)) B with ⟨h1, _⟩ | ⟨k, y, _, h2, h3⟩
  · rcases findI_cases (fun b : Back => decide (b.id = id)) B with ⟨_, h4⟩ | ⟨k, y, h4, _⟩
    · have := h4 x hx; simp [he] at this
    · omega
  · unfold atB at h; rw [h2] at h; cases h

/-! ### Deeds, by their members -/
theorem applyF_right {V : List Vip} {B : List Back} {o : Ord} (h : Right V B) : Right (applyF V B o).1.1 (applyF V B o).1.2 := by
  unfold applyF
  split
  · exact addV_right h
  · split
    · exact addB_right h
    · split
      · exact changeB_right h
      · split
        · exact changeB_right h
        · split
          · exact changeB_right h
          · split
            · exact modeV_right h
            · split
              · exact h
              · exact h
theorem right_ap {V V' : List Vip} {B B' : List Back} {o : Ord} {n : Int} (h : Right V B) (e : applyF V B o = ((V', B'), n)) : Right V' B' := by
  have := applyF_right (o := o) h
  rw [e] at this
  exact this

def setM (v : Vip) (m : Int) : Vip := ⟨v.id, v.addr, v.port, v.proto, m⟩
theorem ap_mode {V : List Vip} {B : List Back} (hR : Right V B) {v : Vip} (hv : v ∈ V) {o : Ord} (hop : o.op = 6) (hid : o.id = v.id) (hm : o.num = 1 ∨ o.num = 2) (hg : o.num = 2 → v.proto = 6) :
    ∃ V', applyF V B o = ((V', B), 0) ∧ ∀ u, u ∈ V' ↔ (u ∈ V ∧ u.id ≠ v.id) ∨ u = setM v o.num := by
  obtain ⟨i, h1, h2⟩ := find_mem (key := Vip.id) hR.sv hv
  have e : applyF V B o = (((modeV V o.id o.num).1, B), (modeV V o.id o.num).2) := by unfold applyF; rw [hop]; rfl
  have e2 : modeV V o.id o.num = (V.set i (setM v o.num), 0) := by
    have e3 : (!decide (o.num = 1) && !decide (o.num = 2)) = false := by rcases hm with h | h <;> rw [h] <;> rfl
    have e4 : (decide (o.num = 2) && !decide (v.proto = 6)) = false := by
      by_cases h : o.num = 2
      · rw [hg h]; simp
      · rw [decide_eq_false h, Bool.false_and]
    unfold modeV
    rw [e3, hid, h1, decide_eq_false (by omega : ¬ (i : Int) < 0)]
    simp only [nat_toNat, h2, e4]
    rw [modeV_set h2]
    rfl
  refine ⟨V.set i (setM v o.num), by rw [e, e2], fun u => mem_set_key (key := Vip.id) hR.sv h2⟩
theorem ap_remove {V : List Vip} {B : List Back} (hR : Right V B) {x : Back} (hx : x ∈ B) {o : Ord} (hop : o.op = 3) (hid : o.id = x.id) :
    ∃ B', applyF V B o = ((V, B'), 0) ∧ ∀ u, u ∈ B' ↔ u ∈ B ∧ u.id ≠ x.id := by
  obtain ⟨i, h1, h2⟩ := find_mem (key := Back.id) hR.sb hx
  have e : applyF V B o = ((V, (changeB B 0 o.id 0).1), (changeB B 0 o.id 0).2) := by unfold applyF; rw [hop]; rfl
  have e2 := change_some (B := B) (kind := 0) (id := o.id) (w := 0) rfl (by rw [hid]; exact h1) h2
  refine ⟨withB B (chg 0 0 x) true, by rw [e, e2]; rfl, fun u => ?_⟩
  unfold withB
  rw [List.mem_flatMap]
  constructor
  · rintro ⟨y, hy, hu⟩
    unfold with1 at hu
    split at hu
    · rename_i hne
      rw [List.mem_singleton.1 hu]
      have h3 : ¬ y.id = (chg 0 0 x).id := by simpa using hne
      exact ⟨hy, h3⟩
    · simp at hu
  · rintro ⟨hu, hne⟩
    refine ⟨u, hu, ?_⟩
    unfold with1
    rw [decide_eq_false (show ¬ u.id = (chg 0 0 x).id from hne)]
    exact List.mem_singleton.2 rfl
theorem ap_change {V : List Vip} {B : List Back} (hR : Right V B) {x : Back} (hx : x ∈ B) {o : Ord} (hid : o.id = x.id) (hop : o.op = 4 ∨ (o.op = 5 ∧ 1 ≤ o.num ∧ o.num ≤ 8)) :
    ∃ B', applyF V B o = ((V, B'), 0) ∧ ∀ u, u ∈ B' ↔ (u ∈ B ∧ u.id ≠ x.id) ∨ u = (if o.op = 4 then chg 1 0 x else chg 2 o.num x) := by
  obtain ⟨i, h1, h2⟩ := find_mem (key := Back.id) hR.sb hx
  rcases hop with hop | ⟨hop, hn⟩
  · have e : applyF V B o = ((V, (changeB B 1 o.id 0).1), (changeB B 1 o.id 0).2) := by unfold applyF; rw [hop]; rfl
    have e2 := change_some (B := B) (kind := 1) (id := o.id) (w := 0) rfl (by rw [hid]; exact h1) h2
    rw [with_chg hR.sb h2 1 0 (by decide)] at e2
    refine ⟨B.set i (chg 1 0 x), by rw [e, e2], fun u => ?_⟩
    rw [if_pos hop]
    exact mem_set_key (key := Back.id) hR.sb h2
  · have e : applyF V B o = ((V, (changeB B 2 o.id o.num).1), (changeB B 2 o.id o.num).2) := by unfold applyF; rw [hop]; rfl
    have e2 := change_some (B := B) (kind := 2) (id := o.id) (w := o.num) (by rw [decide_eq_false (by omega : ¬ o.num < 1), decide_eq_false (by omega : ¬ 8 < o.num)]; rfl) (by rw [hid]; exact h1) h2
    rw [with_chg hR.sb h2 2 o.num (by decide)] at e2
    refine ⟨B.set i (chg 2 o.num x), by rw [e, e2], fun u => ?_⟩
    rw [if_neg (by omega)]
    exact mem_set_key (key := Back.id) hR.sb h2
theorem ap_addV {V : List Vip} {B : List Back} {o : Ord} (hop : o.op = 1) (hg : goodV (ordVip o) = true) (hid : ∀ x ∈ V, x.id ≠ o.id) (hp : ∀ x ∈ V, sameAt o.addr o.port o.proto x = false) (hl : V.length < 4) :
    ∃ V', applyF V B o = ((V', B), 0) ∧ ∀ u, u ∈ V' ↔ u = ordVip o ∨ u ∈ V := by
  have e : applyF V B o = (((addV V (ordVip o)).1, B), (addV V (ordVip o)).2) := by unfold applyF; rw [hop]; rfl
  have e1 : decide (findI (fun u : Vip => decide (u.id = (ordVip o).id)) V ≥ 0) = false := by
    rw [find_none (key := Vip.id) (n := (ordVip o).id) hid]; rfl
  have e2 : decide (findI (sameAt (ordVip o).addr (ordVip o).port (ordVip o).proto) V ≥ 0) = false := by
    rw [findI_none (p := sameAt (ordVip o).addr (ordVip o).port (ordVip o).proto) fun j u _ hu => hp u (List.mem_of_getElem? hu)]; rfl
  have e3 : addV V (ordVip o) = (insBy Vip.id (ordVip o) V, 0) := by
    unfold addV
    rw [hg, e1, e2, decide_eq_false (by omega : ¬ (V.length : Int) = 4)]
    rfl
  exact ⟨_, by rw [e, e3], fun u => ins_in⟩
theorem ap_addB {V : List Vip} {B : List Back} {o : Ord} (hop : o.op = 2) (hg : goodB (fresh (ordBack o)) = true) (hv : ∃ v ∈ V, v.id = o.vip) (hid : ∀ x ∈ B, x.id ≠ o.id) (hl : B.length < 16) :
    ∃ B', applyF V B o = ((V, B'), 0) ∧ ∀ u, u ∈ B' ↔ u = fresh (ordBack o) ∨ u ∈ B := by
  have e : applyF V B o = ((V, (addB V B (ordBack o)).1), (addB V B (ordBack o)).2) := by unfold applyF; rw [hop]; rfl
  have e1 : decide (findI (fun u : Vip => decide (u.id = (ordBack o).vip)) V < 0) = false := by
    obtain ⟨v, h1, h2⟩ := hv
    rcases findI_cases (fun u : Vip => decide (u.id = (ordBack o).vip)) V with ⟨_, h4⟩ | ⟨k, y, h4, _⟩
    · have := h4 v h1
      have h5 : v.id = (ordBack o).vip := h2
      simp [h5] at this
    · rw [h4]; exact decide_eq_false (by omega)
  have e2 : decide (findI (fun u : Back => decide (u.id = (ordBack o).id)) B ≥ 0) = false := by
    rw [find_none (key := Back.id) (n := (ordBack o).id) hid]; rfl
  have e3 : addB V B (ordBack o) = (insBy Back.id (fresh (ordBack o)) B, 0) := by
    unfold addB
    rw [hg, e1, e2, decide_eq_false (by omega : ¬ (B.length : Int) = 16)]
  exact ⟨_, by rw [e, e3], fun u => ins_in⟩

/-! ### Orders one behind the other -/
def runF (V : List Vip) (B : List Back) : List Ord → Option (List Vip × List Back)
  | [] => some (V, B)
  | o :: r => match decide ((applyF V B o).2 = 0) with
    | true => runF (applyF V B o).1.1 (applyF V B o).1.2 r
    | false => none
theorem runF_cons (V : List Vip) (B : List Back) (o : Ord) (r : List Ord) : runF V B (o :: r) = match decide ((applyF V B o).2 = 0) with
    | true => runF (applyF V B o).1.1 (applyF V B o).1.2 r
    | false => none := rfl
theorem run_cons {V V' : List Vip} {B B' : List Back} {o : Ord} {r : List Ord} (h : applyF V B o = ((V', B'), 0)) : runF V B (o :: r) = runF V' B' r := by
  rw [runF_cons, h]; rfl
theorem run_append : ∀ (l m : List Ord) (V : List Vip) (B : List Back), runF V B (l ++ m) = match runF V B l with
    | some (V', B') => runF V' B' m
    | none => none
  | [], m, V, B => rfl
  | o :: r, m, V, B => by
    show runF V B (o :: (r ++ m)) = _
    rw [runF_cons, runF_cons]
    cases decide ((applyF V B o).2 = 0) with
    | true => exact run_append r m _ _
    | false => rfl
/-- Through a row, element by element. -/
theorem run_flat {α : Type} {f : α → List Ord} {I : List α → List Vip → List Back → Prop} (L : List α)
    (step : ∀ P x R V B, L = P ++ x :: R → Right V B → I P V B → ∃ V' B', runF V B (f x) = some (V', B') ∧ Right V' B' ∧ I (P ++ [x]) V' B') :
    ∀ (R P : List α) (V : List Vip) (B : List Back), L = P ++ R → Right V B → I P V B → ∃ V' B', runF V B (R.flatMap f) = some (V', B') ∧ Right V' B' ∧ I L V' B'
  | [], P, V, B, hL, hR, hI => by
    rw [List.append_nil] at hL
    subst hL
    exact ⟨V, B, rfl, hR, hI⟩
  | x :: R, P, V, B, hL, hR, hI => by
    obtain ⟨V1, B1, h1, h2, h3⟩ := step P x R V B hL hR hI
    obtain ⟨V2, B2, h4, h5, h6⟩ := run_flat L step R (P ++ [x]) V1 B1 (by rw [hL, List.append_assoc]; rfl) h2 h3
    refine ⟨V2, B2, ?_, h5, h6⟩
    rw [List.flatMap_cons, run_append, h1]
    exact h4
end Go.Proofs.YtghfefkmmobmgaaGreat.V
namespace Go.Proofs.YtghfefkmmobmgaaGreat.V
open Go.RowKit

section
variable {V W : List Vip} {B B' : List Back}

theorem kept_of (hk : V.all (kept1 W) = true) {v : Vip} (hv : v ∈ V) : ∃ w, atV v.id W = some w ∧ w ∈ W ∧ setM v (modeOf W v) = w ∧ w.proto = v.proto := by
  have h := List.all_eq_true.1 hk v hv
  unfold kept1 at h
  split at h
  · cases h
  · rename_i w hw
    simp only [Bool.and_eq_true, decide_eq_true_eq] at h
    refine ⟨w, hw, atV_mem hw, ?_, h.2.2⟩
    have h1 := atV_id hw
    have h2 : modeOf W v = w.mode := by unfold modeOf; rw [hw]
    unfold setM
    rw [h2, ← h1, ← h.1, ← h.2.1, ← h.2.2]

theorem mem_parts {α : Type} {P R : List α} {x u : α} : u ∈ P ++ x :: R ↔ u ∈ P ∨ u = x ∨ u ∈ R := by simp
theorem notin_of {α : Type} {key : α → Int} {P R : List α} {x : α} (h : (P ++ x :: R).Pairwise (fun a b => key a < key b)) : ∀ y ∈ P, key y ≠ key x := by
  intro y hy
  have := (List.pairwise_append.1 h).2.2 y hy x List.mem_cons_self
  omega

theorem phase1 (hR : Right V B) (hS : Right W B') (hk : V.all (kept1 W) = true) :
    ∃ V1, runF V B (V.flatMap (modes1 W)) = some (V1, B) ∧ Right V1 B ∧ ∀ u, u ∈ V1 ↔ u ∈ W ∧ ∃ v ∈ V, v.id = u.id := by
  obtain ⟨V1, B1, h1, h2, h3, h4⟩ := run_flat (f := modes1 W) (I := fun P Vk Bk => Bk = B ∧ ∀ u, u ∈ Vk ↔ (∃ v ∈ P, u = setM v (modeOf W v)) ∨ (u ∈ V ∧ u ∉ P)) V (fun P x R Vk Bk hL hRk hI => by
    obtain ⟨rfl, hI⟩ := hI
    have hxV : x ∈ V := by rw [hL]; exact mem_parts.2 (.inr (.inl rfl))
    have hnP := notin_of (key := Vip.id) (hL ▸ hR.sv)
    have hxP : x ∉ P := fun h => hnP x h rfl
    have hxk : x ∈ Vk := (hI x).2 (.inr ⟨hxV, hxP⟩)
    obtain ⟨w, hw1, hw2, hw3, hw4⟩ := kept_of hk hxV
    have hgw := hS.gv w hw2
    have hmw : modeOf W x = w.mode := by unfold modeOf; rw [hw1]
    have key : ∃ V', runF Vk Bk (modes1 W x) = some (V', Bk) ∧ Right V' Bk ∧ ∀ u, u ∈ V' ↔ (u ∈ Vk ∧ u.id ≠ x.id) ∨ u = setM x (modeOf W x) := by
      by_cases he : modeOf W x = x.mode
      · refine ⟨Vk, by unfold modes1; rw [decide_eq_true he]; rfl, hRk, fun u => ?_⟩
        have hsx : setM x (modeOf W x) = x := by unfold setM; rw [he]
        rw [hsx]
        constructor
        · intro hu
          by_cases hux : u.id = x.id
          · exact .inr (key_inj (key := Vip.id) hRk.sv hu hxk hux)
          · exact .inl ⟨hu, hux⟩
        · rintro (h | rfl)
          · exact h.1
          · exact hxk
      · have hm : w.mode = 1 ∨ w.mode = 2 ∧ w.proto = 6 := by
          unfold goodV at hgw
          simp only [Bool.and_eq_true, Bool.or_eq_true, decide_eq_true_eq] at hgw
          rcases hgw.2 with ⟨h, _⟩ | h
          · exact .inl h
          · exact .inr h
        obtain ⟨V', e1, e2⟩ := ap_mode (o := ⟨0, 6, x.id, 0, 0, 0, 0, modeOf W x⟩) hRk hxk rfl rfl (by rw [hmw]; rcases hm with h | h; exact .inl h; exact .inr h.1) (fun h => by
          rw [hmw] at h
          rcases hm with h5 | h5
          · rw [h5] at h; cases h
          · rw [← hw4]; exact h5.2)
        refine ⟨V', ?_, right_ap hRk e1, e2⟩
        unfold modes1
        rw [decide_eq_false he]
        show runF Vk Bk [_] = _
        rw [run_cons e1]
        rfl
    obtain ⟨V', e1, e2, e3⟩ := key
    refine ⟨V', Bk, e1, e2, rfl, fun u => ?_⟩
    rw [e3, hI]
    constructor
    · rintro (⟨⟨v, hv, rfl⟩ | ⟨hu1, hu2⟩, hux⟩ | rfl)
      · exact .inl ⟨v, List.mem_append_left _ hv, rfl⟩
      · refine .inr ⟨hu1, fun h => ?_⟩
        rcases List.mem_append.1 h with h | h
        · exact hu2 h
        · rw [List.mem_singleton.1 h] at hux; exact hux rfl
      · exact .inl ⟨x, List.mem_append_right _ (List.mem_singleton.2 rfl), rfl⟩
    · rintro (⟨v, hv, rfl⟩ | ⟨hu1, hu2⟩)
      · rcases List.mem_append.1 hv with h | h
        · exact .inl ⟨.inl ⟨v, h, rfl⟩, fun he => hnP v h he⟩
        · rw [List.mem_singleton.1 h]; exact .inr rfl
      · have hux : u ≠ x := fun h => hu2 (h ▸ List.mem_append_right _ (List.mem_singleton.2 rfl))
        exact .inl ⟨.inr ⟨hu1, fun h => hu2 (List.mem_append_left _ h)⟩, fun he => hux (key_inj (key := Vip.id) hR.sv hu1 hxV he)⟩) V [] V B rfl hR ⟨rfl, fun u => by simp⟩
  subst h3
  refine ⟨V1, h1, h2, fun u => ?_⟩
  rw [h4]
  constructor
  · rintro (⟨v, hv, rfl⟩ | ⟨h5, h6⟩)
    · obtain ⟨w, _, hw2, hw3, _⟩ := kept_of hk hv
      exact ⟨hw3 ▸ hw2, v, hv, rfl⟩
    · exact absurd h5 h6
  · rintro ⟨hu, v, hv, he⟩
    obtain ⟨w, hw1, hw2, hw3, _⟩ := kept_of hk hv
    have : w = u := key_inj (key := Vip.id) hS.sv hw2 hu (by rw [atV_id hw1]; exact he)
    subst this
    exact .inl ⟨v, hv, hw3.symm⟩

theorem phase2 {V1 : List Vip} (hR : Right V1 B) : ∃ B2, runF V1 B (B.flatMap (removes1 B')) = some (V1, B2) ∧ Right V1 B2 ∧ ∀ u, u ∈ B2 ↔ u ∈ B ∧ leavesB u B' = false := by
  obtain ⟨V2, B2, h1, h2, h3, h4⟩ := run_flat (f := removes1 B') (I := fun P Vk Bk => Vk = V1 ∧ ∀ u, u ∈ Bk ↔ u ∈ B ∧ (u ∈ P → leavesB u B' = false)) B (fun P x R Vk Bk hL hRk hI => by
    obtain ⟨rfl, hI⟩ := hI
    have hxB : x ∈ B := by rw [hL]; exact mem_parts.2 (.inr (.inl rfl))
    have hnP := notin_of (key := Back.id) (hL ▸ hR.sb)
    have hxP : x ∉ P := fun h => hnP x h rfl
    have hxk : x ∈ Bk := (hI x).2 ⟨hxB, fun h => absurd h hxP⟩
    cases hl : leavesB x B' with
    | false =>
      refine ⟨Vk, Bk, by unfold removes1; rw [hl]; rfl, hRk, rfl, fun u => ?_⟩
      rw [hI]
      constructor
      · rintro ⟨h5, h6⟩
        refine ⟨h5, fun h => ?_⟩
        rcases List.mem_append.1 h with h | h
        · exact h6 h
        · rw [List.mem_singleton.1 h]; exact hl
      · rintro ⟨h5, h6⟩
        exact ⟨h5, fun h => h6 (List.mem_append_left _ h)⟩
    | true =>
      obtain ⟨Bn, e1, e2⟩ := ap_remove (o := ⟨0, 3, x.id, 0, 0, 0, 0, 0⟩) hRk hxk rfl rfl
      refine ⟨Vk, Bn, ?_, right_ap hRk e1, rfl, fun u => ?_⟩
      · unfold removes1
        rw [hl]
        show runF Vk Bk [_] = _
        rw [run_cons e1]
        rfl
      · rw [e2, hI]
        constructor
        · rintro ⟨⟨h5, h6⟩, hne⟩
          refine ⟨h5, fun h => ?_⟩
          rcases List.mem_append.1 h with h | h
          · exact h6 h
          · rw [List.mem_singleton.1 h] at hne; exact absurd rfl hne
        · rintro ⟨h5, h6⟩
          refine ⟨⟨h5, fun h => h6 (List.mem_append_left _ h)⟩, fun he => ?_⟩
          have := key_inj (key := Back.id) hR.sb h5 hxB he
          subst this
          have := h6 (List.mem_append_right _ (List.mem_singleton.2 rfl))
          rw [hl] at this; cases this) B [] V1 B rfl hR ⟨rfl, fun u => by simp⟩
  subst h3
  refine ⟨B2, h1, h2, fun u => ?_⟩
  rw [h4]
  exact ⟨fun h => ⟨h.1, h.2 h.1⟩, fun h => ⟨h.1, fun _ => h.2⟩⟩

theorem phase3 {V1 : List Vip} {B2 : List Back} (hR : Right V1 B2) (hS : Right W B') (hm : ∀ u, u ∈ V1 ↔ u ∈ W ∧ ∃ v ∈ V, v.id = u.id) : runF V1 B2 (W.flatMap (adds1 V)) = some (W, B2) ∧ Right W B2 := by
  obtain ⟨V2, Bn, h1, h2, h3, h4⟩ := run_flat (f := adds1 V) (I := fun P Vk Bk => Bk = B2 ∧ ∀ u, u ∈ Vk ↔ u ∈ W ∧ ((∃ v ∈ V, v.id = u.id) ∨ u ∈ P)) W (fun P x R Vk Bk hL hRk hI => by
    obtain ⟨rfl, hI⟩ := hI
    have hxW : x ∈ W := by rw [hL]; exact mem_parts.2 (.inr (.inl rfl))
    have hnP := notin_of (key := Vip.id) (hL ▸ hS.sv)
    cases hat : atV x.id V with
    | some v =>
      refine ⟨Vk, Bk, by unfold adds1; rw [hat]; rfl, hRk, rfl, fun u => ?_⟩
      rw [hI]
      constructor
      · rintro ⟨h5, h6 | h6⟩
        · exact ⟨h5, .inl h6⟩
        · exact ⟨h5, .inr (List.mem_append_left _ h6)⟩
      · rintro ⟨h5, h6 | h6⟩
        · exact ⟨h5, .inl h6⟩
        · rcases List.mem_append.1 h6 with h6 | h6
          · exact ⟨h5, .inr h6⟩
          · rw [List.mem_singleton.1 h6]
            exact ⟨hxW, .inl ⟨v, atV_mem hat, atV_id hat⟩⟩
    | none =>
      have hno := atV_no hat
      have hxk : x ∉ Vk := fun h => by
        rcases ((hI x).1 h).2 with ⟨v, hv, he⟩ | h5
        · exact hno v hv he
        · exact hnP x h5 rfl
      have hid : ∀ u ∈ Vk, u.id ≠ x.id := fun u hu he => hxk (key_inj (key := Vip.id) hS.sv ((hI u).1 hu).1 hxW he ▸ hu)
      have hpl : ∀ u ∈ Vk, sameAt x.addr x.port x.proto u = false := fun u hu => by
        have huW := ((hI u).1 hu).1
        obtain ⟨i, hi⟩ := List.mem_iff_getElem?.1 huW
        obtain ⟨j, hj⟩ := List.mem_iff_getElem?.1 hxW
        rcases Nat.lt_trichotomy i j with h5 | rfl | h5
        · exact pairwise_get.1 hS.pv j i x u h5 hj hi
        · rw [hi] at hj; injection hj with hj; subst hj; exact absurd hu hxk
        · rw [← same_symm]; exact pairwise_get.1 hS.pv i j u x h5 hi hj
      have hlen : Vk.length < 4 := by
        have h5 := sorted_sub (key := Vip.id) (ins_sorted (x := x) hRk.sv hid) hS.sv (fun u hu => by
          rcases ins_in.1 hu with rfl | hu
          · exact hxW
          · exact ((hI u).1 hu).1)
        have := h5.length_le
        rw [ins_len] at this
        have := hS.lv
        omega
      obtain ⟨Vn, e1, e2⟩ := ap_addV (B := Bk) (o := ⟨0, 1, x.id, 0, x.addr, x.port, x.proto, x.mode⟩) rfl (hS.gv x hxW) hid hpl hlen
      have hox : ordVip ⟨0, 1, x.id, 0, x.addr, x.port, x.proto, x.mode⟩ = x := rfl
      refine ⟨Vn, Bk, ?_, right_ap hRk e1, rfl, fun u => ?_⟩
      · unfold adds1
        rw [hat]
        show runF Vk Bk [_] = _
        rw [run_cons e1]
        rfl
      · rw [e2, hox, hI]
        constructor
        · rintro (rfl | ⟨h5, h6 | h6⟩)
          · exact ⟨hxW, .inr (List.mem_append_right _ (List.mem_singleton.2 rfl))⟩
          · exact ⟨h5, .inl h6⟩
          · exact ⟨h5, .inr (List.mem_append_left _ h6)⟩
        · rintro ⟨h5, h6 | h6⟩
          · exact .inr ⟨h5, .inl h6⟩
          · rcases List.mem_append.1 h6 with h6 | h6
            · exact .inr ⟨h5, .inr h6⟩
            · exact .inl (List.mem_singleton.1 h6)) W [] V1 B2 rfl hR ⟨rfl, fun u => by rw [hm]; simp⟩
  subst h3
  have e : V2 = W := sorted_ext (key := Vip.id) h2.sv hS.sv fun u => by
    rw [h4]
    exact ⟨fun h => h.1, fun h => ⟨h, .inr h⟩⟩
  subst e
  exact ⟨h1, h2⟩
end
end Go.Proofs.YtghfefkmmobmgaaGreat.V
namespace Go.Proofs.YtghfefkmmobmgaaGreat.V
open Go.RowKit

/-- A backend of the other farm, as it is made. -/
def fin1 (B B' : List Back) (y : Back) : Back := match atB y.id B with
  | none => { y with up := false }
  | some x => match leavesB x B' with
    | true => { y with up := false }
    | false => { y with up := x.up }
theorem fin_id (B B' : List Back) (y : Back) : (fin1 B B' y).id = y.id := by
  unfold fin1
  split
  · rfl
  · split <;> rfl
theorem fin_plain (B B' : List Back) (y : Back) : plain (fin1 B B' y) = plain y := by
  unfold fin1
  split
  · rfl
  · split <;> rfl

section
variable {V W : List Vip} {B B' : List Back}

theorem stays_of (hS : Right W B') {x y : Back} (hy : y ∈ B') (hid : x.id = y.id) (h : leavesB x B' = false) : y.vip = x.vip ∧ y.addr = x.addr ∧ ¬ (x.life = 2 ∧ y.life = 1) := by
  have h1 : atB x.id B' = some y := by rw [hid]; exact atb_mem hS.sb hy
  have h2 : leavesB x B' = match atB x.id B' with
    | none => true
    | some y => !decide (y.vip = x.vip) || (!decide (y.addr = x.addr) || (decide (x.life = 2) && decide (y.life = 1))) := rfl
  rw [h2, h1] at h
  simp only [Bool.or_eq_false_iff, Bool.not_eq_false', decide_eq_true_eq] at h
  refine ⟨h.1, h.2.1, fun hh => ?_⟩
  rw [hh.1, hh.2] at h
  simp at h
theorem life_good {y : Back} (h : goodB y = true) : y.life = 1 ∨ y.life = 2 := by
  unfold goodB at h
  simp only [Bool.and_eq_true, decide_eq_true_eq] at h
  have := h.1.2; have := h.2; omega
theorem weight_good {y : Back} (h : goodB y = true) : 1 ≤ y.weight ∧ y.weight ≤ 8 := by
  unfold goodB at h
  simp only [Bool.and_eq_true, decide_eq_true_eq] at h
  exact ⟨h.1.1.1.2, h.1.1.2⟩

theorem run_one {V V' : List Vip} {B B' : List Back} {o : Ord} (h : applyF V B o = ((V', B'), 0)) : runF V B [o] = some (V', B') := by rw [run_cons h]; rfl

theorem new_run {Bk : List Back} (hR : Right W Bk) (hS : Right W B') {y : Back} (hy : y ∈ B') (hid : ∀ u ∈ Bk, u.id ≠ y.id) (hsub : ∀ u ∈ Bk, ∃ z ∈ B', z.id = u.id) :
    ∃ Bn, runF W Bk (new1 y) = some (W, Bn) ∧ Right W Bn ∧ ∀ u, u ∈ Bn ↔ u ∈ Bk ∨ u = { y with up := false } := by
  have hgy := hS.gb y hy
  have hfr : fresh (ordBack ⟨0, 2, y.id, y.vip, y.addr, 0, 0, y.weight⟩) = ⟨y.id, y.vip, y.addr, y.weight, 1, false⟩ := rfl
  have hgf : goodB ⟨y.id, y.vip, y.addr, y.weight, 1, false⟩ = true := by
    unfold goodB at hgy ⊢
    simp only [Bool.and_eq_true, decide_eq_true_eq] at hgy ⊢
    exact ⟨⟨hgy.1.1, by decide⟩, by decide⟩
  have hlen : Bk.length < 16 := by
    have h5 := sorted_sub (key := fun n : Int => n) (l := (insBy Back.id (⟨y.id, y.vip, y.addr, y.weight, 1, false⟩ : Back) Bk).map Back.id) (m := B'.map Back.id)
      (List.Pairwise.map _ (fun _ _ h => h) (ins_sorted hR.sb hid)) (List.Pairwise.map _ (fun _ _ h => h) hS.sb) (fun n hn => by
        obtain ⟨u, hu, rfl⟩ := List.mem_map.1 hn
        rcases ins_in.1 hu with rfl | hu
        · exact List.mem_map.2 ⟨y, hy, rfl⟩
        · obtain ⟨z, hz, he⟩ := hsub u hu
          exact List.mem_map.2 ⟨z, hz, he⟩)
    have := h5.length_le
    rw [List.length_map, List.length_map, ins_len] at this
    have := hS.lb
    omega
  obtain ⟨B1, e1, e2⟩ := ap_addB (V := W) (B := Bk) (o := ⟨0, 2, y.id, y.vip, y.addr, 0, 0, y.weight⟩) rfl (by rw [hfr]; exact hgf) (hS.hv y hy) hid hlen
  have hR1 := right_ap hR e1
  rw [hfr] at e2
  cases hl : decide (y.life = 1) with
  | true =>
    have hl1 := of_decide_eq_true hl
    refine ⟨B1, by unfold new1; rw [hl]; exact run_one e1, hR1, fun u => ?_⟩
    rw [e2, or_comm]
    have : ({ y with up := false } : Back) = ⟨y.id, y.vip, y.addr, y.weight, 1, false⟩ := by rw [← hl1]
    rw [this]
  | false =>
    have hl2 : y.life = 2 := (life_good hgy).resolve_left (of_decide_eq_false hl)
    have hf : (⟨y.id, y.vip, y.addr, y.weight, 1, false⟩ : Back) ∈ B1 := (e2 _).2 (.inl rfl)
    obtain ⟨B2, e3, e4⟩ := ap_change (o := ⟨0, 4, y.id, 0, 0, 0, 0, 0⟩) hR1 hf rfl (.inl rfl)
    refine ⟨B2, by unfold new1; rw [hl]; show runF W Bk [_, _] = _; rw [run_cons e1]; exact run_one e3, right_ap hR1 e3, fun u => ?_⟩
    have hc : (if (4 : Int) = 4 then chg 1 0 (⟨y.id, y.vip, y.addr, y.weight, 1, false⟩ : Back) else chg 2 0 ⟨y.id, y.vip, y.addr, y.weight, 1, false⟩) = { y with up := false } := by
      rw [if_pos rfl]
      show (⟨y.id, y.vip, y.addr, y.weight, 2, false⟩ : Back) = _
      rw [← hl2]
    rw [e4, hc, e2]
    constructor
    · rintro (⟨rfl | h, hne⟩ | h)
      · exact absurd rfl hne
      · exact .inl h
      · exact .inr h
    · rintro (h | h)
      · exact .inl ⟨.inr h, hid u h⟩
      · exact .inr h

def wOrd (x y : Back) : List Ord := match decide (x.weight = y.weight) with
  | true => []
  | false => [⟨0, 5, y.id, 0, 0, 0, 0, y.weight⟩]
def lOrd (x y : Back) : List Ord := match decide (x.life = y.life) with
  | true => []
  | false => [⟨0, 4, y.id, 0, 0, 0, 0, 0⟩]
theorem old1_eq (x y : Back) : old1 x y = wOrd x y ++ lOrd x y := rfl

theorem old_run {Bk : List Back} (hR : Right W Bk) (hS : Right W B') {x y : Back} (hy : y ∈ B') (hx : x ∈ Bk) (hid : x.id = y.id) (hl : leavesB x B' = false) :
    ∃ Bn, runF W Bk (old1 x y) = some (W, Bn) ∧ Right W Bn ∧ ∀ u, u ∈ Bn ↔ (u ∈ Bk ∧ u.id ≠ y.id) ∨ u = { y with up := x.up } := by
  obtain ⟨hs1, hs2, hs3⟩ := stays_of hS hy hid hl
  have hgy := hS.gb y hy
  have hgx := hR.gb x hx
  -- the weight
  have wt : ∃ B1, runF W Bk (wOrd x y) = some (W, B1) ∧ Right W B1 ∧ ∀ u, u ∈ B1 ↔ (u ∈ Bk ∧ u.id ≠ y.id) ∨ u = { x with weight := y.weight } := by
    have hxy : ∀ u : Back, (u.id ≠ x.id) = (u.id ≠ y.id) := fun u => by rw [hid]
    cases hw : decide (x.weight = y.weight) with
    | true =>
      have ew : wOrd x y = [] := by unfold wOrd; rw [hw]
      have hw := of_decide_eq_true hw
      rw [ew]
      refine ⟨Bk, rfl, hR, fun u => ?_⟩
      have : ({ x with weight := y.weight } : Back) = x := by rw [← hw]
      rw [this]
      constructor
      · intro hu
        by_cases hux : u.id = y.id
        · exact .inr (key_inj (key := Back.id) hR.sb hu hx (by rw [hux, hid]))
        · exact .inl ⟨hu, hux⟩
      · rintro (h | rfl)
        · exact h.1
        · exact hx
    | false =>
      obtain ⟨B1, e1, e2⟩ := ap_change (o := ⟨0, 5, y.id, 0, 0, 0, 0, y.weight⟩) hR hx hid.symm (.inr ⟨rfl, weight_good hgy⟩)
      have ew : wOrd x y = [⟨0, 5, y.id, 0, 0, 0, 0, y.weight⟩] := by unfold wOrd; rw [hw]
      rw [ew]
      refine ⟨B1, run_one e1, right_ap hR e1, fun u => ?_⟩
      have hc : (if (5 : Int) = 4 then chg 1 0 x else chg 2 y.weight x) = { x with weight := y.weight } := by
        rw [if_neg (by decide)]
        rfl
      rw [e2, hc, hxy]
  obtain ⟨B1, r1, hR1, m1⟩ := wt
  have hx1 : ({ x with weight := y.weight } : Back) ∈ B1 := (m1 _).2 (.inr rfl)
  have fin : ∃ B2, runF W B1 (lOrd x y) = some (W, B2) ∧ Right W B2 ∧ ∀ u, u ∈ B2 ↔ (u ∈ Bk ∧ u.id ≠ y.id) ∨ u = { y with up := x.up } := by
    cases hf : decide (x.life = y.life) with
    | true =>
      have ew : lOrd x y = [] := by unfold lOrd; rw [hf]
      rw [ew]
      have hf := of_decide_eq_true hf
      refine ⟨B1, rfl, hR1, fun u => ?_⟩
      have : ({ x with weight := y.weight } : Back) = { y with up := x.up } := by
        show (⟨x.id, x.vip, x.addr, y.weight, x.life, x.up⟩ : Back) = ⟨y.id, y.vip, y.addr, y.weight, y.life, x.up⟩
        rw [hid, hs1, hs2, hf]
      rw [m1, this]
    | false =>
      have ew : lOrd x y = [⟨0, 4, y.id, 0, 0, 0, 0, 0⟩] := by unfold lOrd; rw [hf]
      rw [ew]
      have hf := of_decide_eq_false hf
      have h5 := life_good hgy
      have h6 := life_good hgx
      have hy2 : y.life = 2 := by omega
      obtain ⟨B2, e1, e2⟩ := ap_change (o := ⟨0, 4, y.id, 0, 0, 0, 0, 0⟩) hR1 hx1 hid.symm (.inl rfl)
      refine ⟨B2, run_one e1, right_ap hR1 e1, fun u => ?_⟩
      have hc : (if (4 : Int) = 4 then chg 1 0 ({ x with weight := y.weight } : Back) else chg 2 0 { x with weight := y.weight }) = { y with up := x.up } := by
        rw [if_pos rfl]
        show (⟨x.id, x.vip, x.addr, y.weight, 2, x.up⟩ : Back) = ⟨y.id, y.vip, y.addr, y.weight, y.life, x.up⟩
        rw [hid, hs1, hs2, hy2]
      rw [e2, hc, m1]
      have hxy : (u.id ≠ x.id) = (u.id ≠ y.id) := by rw [hid]
      show (_ ∧ u.id ≠ x.id) ∨ _ ↔ _
      rw [hxy]
      constructor
      · rintro (⟨h | rfl, hne⟩ | h)
        · exact .inl h
        · exact absurd hid hne
        · exact .inr h
      · rintro (h | h)
        · exact .inl ⟨.inl h, h.2⟩
        · exact .inr h
  obtain ⟨B2, r2, hR2, m2⟩ := fin
  refine ⟨B2, ?_, hR2, m2⟩
  rw [old1_eq, run_append, r1]
  exact r2

theorem phase4 (hB : B.Pairwise fun x y => x.id < y.id) {B2 : List Back} (hR : Right W B2) (hS : Right W B') (hm : ∀ u, u ∈ B2 ↔ u ∈ B ∧ leavesB u B' = false) : runF W B2 (B'.flatMap (backs1 B B')) = some (W, B'.map (fin1 B B')) ∧ Right W (B'.map (fin1 B B')) := by
  have hleft : ∀ {u : Back}, leavesB u B' = false → ∃ z ∈ B', z.id = u.id := by
    intro u hu
    have h2 : leavesB u B' = match atB u.id B' with
      | none => true
      | some y => !decide (y.vip = u.vip) || (!decide (y.addr = u.addr) || (decide (u.life = 2) && decide (y.life = 1))) := rfl
    rw [h2] at hu
    split at hu
    · cases hu
    · rename_i z hz
      exact ⟨z, atB_mem hz, atB_id hz⟩
  obtain ⟨V2, Bn, h1, h2, h3, h4⟩ := run_flat (f := backs1 B B') (I := fun P Vk Bk => Vk = W ∧ ∀ u, u ∈ Bk ↔ ((u ∈ B ∧ leavesB u B' = false) ∧ ∀ y ∈ P, y.id ≠ u.id) ∨ ∃ y ∈ P, u = fin1 B B' y) B' (fun P y R Vk Bk hL hRk hI => by
    obtain ⟨rfl, hI⟩ := hI
    have hyB : y ∈ B' := by rw [hL]; exact mem_parts.2 (.inr (.inl rfl))
    have hnP := notin_of (key := Back.id) (hL ▸ hS.sb)
    have hPB : ∀ z ∈ P, z ∈ B' := fun z hz => by rw [hL]; exact mem_parts.2 (.inl hz)
    have key : ∃ Bn, runF Vk Bk (backs1 B B' y) = some (Vk, Bn) ∧ Right Vk Bn ∧ ∀ u, u ∈ Bn ↔ (u ∈ Bk ∧ u.id ≠ y.id) ∨ u = fin1 B B' y := by
      have isnew : (∀ x ∈ B, x.id = y.id → leavesB x B' = true) → backs1 B B' y = new1 y → fin1 B B' y = { y with up := false } → ∃ Bn, runF Vk Bk (backs1 B B' y) = some (Vk, Bn) ∧ Right Vk Bn ∧ ∀ u, u ∈ Bn ↔ (u ∈ Bk ∧ u.id ≠ y.id) ∨ u = fin1 B B' y := by
        intro hno hb hf
        have hid : ∀ u ∈ Bk, u.id ≠ y.id := by
          intro u hu he
          rcases (hI u).1 hu with ⟨⟨h5, h6⟩, _⟩ | ⟨z, hz, rfl⟩
          · rw [hno u h5 he] at h6; cases h6
          · rw [fin_id] at he
            exact hnP z hz he
        obtain ⟨Bn, e1, e2, e3⟩ := new_run hRk hS hyB hid (fun u hu => by
          rcases (hI u).1 hu with ⟨⟨_, h6⟩, _⟩ | ⟨z, hz, rfl⟩
          · exact hleft h6
          · exact ⟨z, hPB z hz, (fin_id B B' z).symm⟩)
        refine ⟨Bn, by rw [hb]; exact e1, e2, fun u => ?_⟩
        rw [e3, hf]
        constructor
        · rintro (h | h)
          · exact .inl ⟨h, hid u h⟩
          · exact .inr h
        · rintro (h | h)
          · exact .inl h.1
          · exact .inr h
      cases hat : atB y.id B with
      | none => exact isnew (fun x hx he => absurd he (atB_no hat x hx)) (by simp only [backs1, hat]) (by simp only [fin1, hat])
      | some x =>
        have hxB := atB_mem hat
        have hxid := atB_id hat
        cases hl : leavesB x B' with
        | true => exact isnew (fun u hu he => by rw [key_inj (key := Back.id) hB hu hxB (by rw [he, hxid])]; exact hl) (by simp only [backs1, hat, hl]) (by simp only [fin1, hat, hl])
        | false =>
          have hxk : x ∈ Bk := (hI x).2 (.inl ⟨⟨hxB, hl⟩, fun z hz => by rw [hxid]; exact hnP z hz⟩)
          obtain ⟨Bn, e1, e2, e3⟩ := old_run hRk hS hyB hxk hxid hl
          exact ⟨Bn, by simp only [backs1, hat, hl]; exact e1, e2, fun u => by rw [e3]; simp only [fin1, hat, hl]⟩
    obtain ⟨Bn, e1, e2, e3⟩ := key
    refine ⟨Vk, Bn, e1, e2, rfl, fun u => ?_⟩
    rw [e3, hI]
    constructor
    · rintro (⟨⟨h5, h6⟩ | ⟨z, hz, rfl⟩, hne⟩ | h)
      · refine .inl ⟨h5, fun z hz => ?_⟩
        rcases List.mem_append.1 hz with hz | hz
        · exact h6 z hz
        · rw [List.mem_singleton.1 hz]; exact fun he => hne he.symm
      · exact .inr ⟨z, List.mem_append_left _ hz, rfl⟩
      · exact .inr ⟨y, List.mem_append_right _ (List.mem_singleton.2 rfl), h⟩
    · rintro (⟨h5, h6⟩ | ⟨z, hz, rfl⟩)
      · exact .inl ⟨.inl ⟨h5, fun z hz => h6 z (List.mem_append_left _ hz)⟩, fun he => h6 y (List.mem_append_right _ (List.mem_singleton.2 rfl)) he.symm⟩
      · rcases List.mem_append.1 hz with hz | hz
        · exact .inl ⟨.inr ⟨z, hz, rfl⟩, by rw [fin_id]; exact hnP z hz⟩
        · rw [List.mem_singleton.1 hz]; exact .inr rfl) B' [] W B2 rfl hR ⟨rfl, fun u => by rw [hm]; simp⟩
  subst h3
  have e : Bn = B'.map (fin1 B B') := by
    refine sorted_ext (key := Back.id) h2.sb ?_ fun u => ?_
    · rw [List.pairwise_map]
      exact hS.sb.imp fun h => by rw [fin_id, fin_id]; exact h
    · rw [h4, List.mem_map]
      constructor
      · rintro (⟨⟨_, h6⟩, h7⟩ | ⟨y, hy, rfl⟩)
        · obtain ⟨z, hz, he⟩ := hleft h6
          exact absurd he (h7 z hz)
        · exact ⟨y, hy, rfl⟩
      · rintro ⟨y, hy, rfl⟩
        exact .inr ⟨y, hy, rfl⟩
  subst e
  exact ⟨h1, h2⟩

/-- The orders, done, make the one farm into the other one, but for who is up. -/
theorem orders_make (hR : Right V B) (hS : Right W B') (hk : V.all (kept1 W) = true) : runF V B (orders V W B B') = some (W, B'.map (fin1 B B')) ∧ Right W (B'.map (fin1 B B')) := by
  obtain ⟨V1, r1, hR1, m1⟩ := phase1 hR hS hk
  obtain ⟨B2, r2, hR2, m2⟩ := phase2 (B' := B') hR1
  obtain ⟨r3, hR3⟩ := phase3 hR2 hS m1
  obtain ⟨r4, hR4⟩ := phase4 hR.sb hR3 hS m2
  refine ⟨?_, hR4⟩
  unfold orders
  rw [run_append, run_append, run_append, r1]
  simp only [r2, r3, r4]
end
end Go.Proofs.YtghfefkmmobmgaaGreat.V
namespace Go.Proofs.YtghfefkmmobmgaaGreat.V
open Go.RowKit

/-! ### Farms that deeds make -/
theorem right_nil : Right [] [] := good_nil.right
theorem would_right {V : List Vip} {B : List Back} {d : Deed} (h : Right V B) : Right (would V B d).1.1 (would V B d).1.2 := by
  unfold would
  split
  · exact addV_right h
  · split
    · exact addB_right h
    · split
      · exact changeB_right h
      · exact modeV_right h
theorem madeTo_right (L : List Deed) : ∀ k, Right (madeTo L k).1 (madeTo L k).2
  | 0 => right_nil
  | k + 1 => by
    rw [madeTo]
    split
    · exact would_right (madeTo_right L k)
    · exact madeTo_right L k
theorem made_good {L : List Deed} (h : ∀ x, x ∈ L → x.ok) : Good (made L).1 (made L).2 := good_of (madeTo_right L _) (madeTo_ok h _)

/-! ### The orders are of their types -/
theorem zc : (0 : Int) ≤ 0 ∧ (0 : Int) ≤ 18446744073709551615 := by decide
theorem zi : -9223372036854775808 ≤ (0 : Int) ∧ (0 : Int) ≤ 9223372036854775807 := by decide
theorem za : (0 : Int) ≤ 0 ∧ (0 : Int) ≤ 4294967295 := by decide
theorem zp : (0 : Int) ≤ 0 ∧ (0 : Int) ≤ 65535 := by decide
theorem zq : (0 : Int) ≤ 0 ∧ (0 : Int) ≤ 255 := by decide
theorem orders_ok {V W : List Vip} {B B' : List Back} (hV : Good V B) (hW : Good W B') : ∀ o, o ∈ orders V W B B' → o.ok ∧ o.count = 0 := by
  have hvid : ∀ y ∈ B', -9223372036854775808 ≤ y.vip ∧ y.vip ≤ 9223372036854775807 := fun y hy => by
    obtain ⟨v, h1, h2⟩ := hW.right.hv y hy
    rw [← h2]
    exact (hW.v v h1).id
  have hnew : ∀ y ∈ B', ∀ o, o ∈ new1 y → o.ok ∧ o.count = 0 := fun y hy o ho => by
    have h1 := hW.b y hy
    have h2 := hvid y hy
    have h3 := weight_good (hW.right.gb y hy)
    have a1 : (⟨0, 2, y.id, y.vip, y.addr, 0, 0, y.weight⟩ : Ord).ok := ⟨zc, h1.id, h2, h1.addr, zp, zq, by show _ ≤ y.weight ∧ y.weight ≤ _; omega⟩
    have a2 : (⟨0, 4, y.id, 0, 0, 0, 0, 0⟩ : Ord).ok := ⟨zc, h1.id, zi, za, zp, zq, zi⟩
    unfold new1 at ho
    split at ho
    · rw [List.mem_singleton.1 ho]; exact ⟨a1, rfl⟩
    · rcases List.mem_cons.1 ho with rfl | ho
      · exact ⟨a1, rfl⟩
      · rw [List.mem_singleton.1 ho]; exact ⟨a2, rfl⟩
  intro o ho
  unfold orders at ho
  rcases List.mem_append.1 ho with ho | ho
  · rcases List.mem_append.1 ho with ho | ho
    · rcases List.mem_append.1 ho with ho | ho
      · obtain ⟨v, hv, ho⟩ := List.mem_flatMap.1 ho
        unfold modes1 at ho
        split at ho
        · cases ho
        · rw [List.mem_singleton.1 ho]
          refine ⟨⟨zc, (hV.v v hv).id, zi, za, zp, zq, ?_⟩, rfl⟩
          show _ ≤ modeOf W v ∧ modeOf W v ≤ _
          unfold modeOf
          split
          · decide
          · rename_i w hw
            exact (hW.v w (atV_mem hw)).mode
      · obtain ⟨x, hx, ho⟩ := List.mem_flatMap.1 ho
        unfold removes1 at ho
        split at ho
        · rw [List.mem_singleton.1 ho]
          exact ⟨⟨zc, (hV.b x hx).id, zi, za, zp, zq, zi⟩, rfl⟩
        · cases ho
    · obtain ⟨v, hv, ho⟩ := List.mem_flatMap.1 ho
      unfold adds1 at ho
      split at ho
      · rw [List.mem_singleton.1 ho]
        have h1 := hW.v v hv
        exact ⟨⟨zc, h1.id, zi, h1.addr, h1.port, h1.proto, h1.mode⟩, rfl⟩
      · cases ho
  · obtain ⟨y, hy, ho⟩ := List.mem_flatMap.1 ho
    unfold backs1 at ho
    split at ho
    · exact hnew y hy o ho
    · split at ho
      · exact hnew y hy o ho
      · rename_i x hx _
        unfold old1 at ho
        have h1 := hW.b y hy
        have h3 := weight_good (hW.right.gb y hy)
        rcases List.mem_append.1 ho with ho | ho
        · split at ho
          · cases ho
          · rw [List.mem_singleton.1 ho]
            exact ⟨⟨zc, h1.id, zi, za, zp, zq, by show _ ≤ y.weight ∧ y.weight ≤ _; omega⟩, rfl⟩
        · split at ho
          · cases ho
          · rw [List.mem_singleton.1 ho]
            exact ⟨⟨zc, h1.id, zi, za, zp, zq, zi⟩, rfl⟩

/-! ### Done one behind the other -/
def runTo (V : List Vip) (B : List Back) (O : List Ord) : Nat → List Vip × List Back
  | 0 => (V, B)
  | k + 1 => match O[k]? with
    | some o => (applyF (runTo V B O k).1 (runTo V B O k).2 o).1
    | none => runTo V B O k
theorem runTo_cons (V : List Vip) (B : List Back) (o : Ord) (r : List Ord) : ∀ k, runTo V B (o :: r) (k + 1) = runTo (applyF V B o).1.1 (applyF V B o).1.2 r k
  | 0 => rfl
  | k + 1 => by
    rw [runTo]
    show (match r[k]? with | some o' => (applyF (runTo V B (o :: r) (k + 1)).1 (runTo V B (o :: r) (k + 1)).2 o').1 | none => runTo V B (o :: r) (k + 1)) = _
    rw [runTo_cons V B o r k]
    rfl
theorem runTo_of : ∀ (O : List Ord) (V : List Vip) (B : List Back) {R : List Vip × List Back}, runF V B O = some R → runTo V B O O.length = R ∧ ∀ (k : Nat) o, O[k]? = some o → (applyF (runTo V B O k).1 (runTo V B O k).2 o).2 = 0
  | [], V, B, R, h => by
    injection h with h
    exact ⟨h, fun k o ho => by simp at ho⟩
  | o :: r, V, B, R, h => by
    rw [runF_cons] at h
    split at h
    · rename_i h1
      obtain ⟨h2, h3⟩ := runTo_of r _ _ h
      refine ⟨by rw [List.length_cons, runTo_cons]; exact h2, fun k o' ho => ?_⟩
      match k, ho with
      | 0, ho =>
        simp only [List.getElem?_cons_zero, Option.some.injEq] at ho
        subst ho
        exact of_decide_eq_true h1
      | k + 1, ho =>
        rw [runTo_cons]
        exact h3 k o' (by simpa using ho)
    · cases h
theorem runTo_good {O : List Ord} (hO : ∀ o, o ∈ O → o.ok) {V : List Vip} {B : List Back} (h : Good V B) : ∀ k, Good (runTo V B O k).1 (runTo V B O k).2
  | 0 => h
  | k + 1 => by
    rw [runTo]
    split
    · rename_i o ho
      exact applyF_good (runTo_good hO h k) (hO o (List.mem_of_getElem? ho))
    · exact runTo_good hO h k

/-- The farm and the count behind so many numbered orders. -/
def stateTo (V : List Vip) (B : List Back) (last : Int) (O : List Ord) (k : Nat) : (List Vip × List Back) × Int := (runTo V B O k, last + k)
theorem num_get {last : Int} {O : List Ord} {k : Nat} {o : Ord} (h : (numTo last O O.length)[k]? = some o) : ∃ o', O[k]? = some o' ∧ o = num1 last k o' := by
  unfold numTo at h
  rw [List.getElem?_mapIdx] at h
  cases hq : O[k]? with
  | none => rw [hq] at h; cases h
  | some y =>
    have hk := (List.getElem?_eq_some_iff.1 hq).1
    rw [hq] at h
    simp only [Option.map_some, if_pos hk, Option.some.injEq] at h
    exact ⟨y, rfl, h.symm⟩
theorem stateTo_step {V : List Vip} {B : List Back} {last : Int} {O : List Ord} (h : ∀ (k : Nat) o, O[k]? = some o → (applyF (runTo V B O k).1 (runTo V B O k).2 o).2 = 0) {k : Nat} {o : Ord} (ho : (numTo last O O.length)[k]? = some o) :
    doF (stateTo V B last O k).1.1 (stateTo V B last O k).1.2 (stateTo V B last O k).2 o = (stateTo V B last O (k + 1), 0) := by
  obtain ⟨o', h1, rfl⟩ := num_get ho
  have h2 := h k o' h1
  have e : applyF (runTo V B O k).1 (runTo V B O k).2 (num1 last k o') = applyF (runTo V B O k).1 (runTo V B O k).2 o' := rfl
  have e2 : runTo V B O (k + 1) = (applyF (runTo V B O k).1 (runTo V B O k).2 o').1 := by rw [runTo, h1]
  unfold stateTo
  dsimp only
  unfold doF
  rw [e, h2, e2, decide_eq_false (show ¬ (num1 last k o').count ≤ last + k by show ¬ last + 1 + (k : Int) ≤ last + k; omega)]
  show ((_, last + 1 + (k : Int)), (0 : Int)) = ((_, last + ((k + 1 : Nat) : Int)), 0)
  have : last + 1 + (k : Int) = last + ((k + 1 : Nat) : Int) := by omega
  rw [this]
theorem num_ok {last : Int} {O : List Ord} (h : ∀ o, o ∈ O → o.ok) (h0 : 0 ≤ last) (h1 : last < 4611686018427387904) (hl : O.length ≤ 800) : ∀ o, o ∈ numTo last O O.length → o.ok := by
  intro o ho
  obtain ⟨k, hk⟩ := List.mem_iff_getElem?.1 ho
  obtain ⟨o', h2, rfl⟩ := num_get hk
  have h3 := h o' (List.mem_of_getElem? h2)
  have hk2 := (List.getElem?_eq_some_iff.1 h2).1
  exact ⟨by show 0 ≤ last + 1 + (k : Int) ∧ last + 1 + (k : Int) ≤ _; omega, h3.id, h3.vip, h3.addr, h3.port, h3.proto, h3.num⟩

/-! ### Who is up stays so -/
def goes1 (x : Back) (o : Ord) : Bool := decide (o.op = 3) && decide (o.id = x.id)
theorem ups {V W : List Vip} {B B' : List Back} {last : Int} (hR : Right V B) (hS : Right W B') {x : Back} (hx : x ∈ B) (h : (numTo last (orders V W B B') (orders V W B B').length).any (goes1 x) = false) :
    ∃ (k : Nat) (z : Back), findI (fun b : Back => decide (b.id = x.id)) (B'.map (fin1 B B')) = k ∧ (B'.map (fin1 B B'))[k]? = some z ∧ z.up = x.up := by
  have hl : leavesB x B' = false := by
    cases hq : leavesB x B' with
    | false => rfl
    | true =>
      exfalso
      have h1 : (⟨0, 3, x.id, 0, 0, 0, 0, 0⟩ : Ord) ∈ orders V W B B' := by
        unfold orders
        refine List.mem_append_left _ (List.mem_append_left _ (List.mem_append_right _ (List.mem_flatMap.2 ⟨x, hx, ?_⟩)))
        unfold removes1
        rw [hq]
        exact List.mem_singleton.2 rfl
      obtain ⟨k, hk⟩ := List.mem_iff_getElem?.1 h1
      have hk2 := (List.getElem?_eq_some_iff.1 hk).1
      have h2 : num1 last k ⟨0, 3, x.id, 0, 0, 0, 0, 0⟩ ∈ numTo last (orders V W B B') (orders V W B B').length := by
        refine List.mem_of_getElem? (i := k) ?_
        unfold numTo
        rw [List.getElem?_mapIdx, hk]
        simp only [Option.map_some, if_pos hk2]
      have h3 := List.any_eq_false.1 h _ h2
      apply h3
      show (decide ((3 : Int) = 3) && decide (x.id = x.id)) = true
      simp
  have h2 : leavesB x B' = match atB x.id B' with
    | none => true
    | some y => !decide (y.vip = x.vip) || (!decide (y.addr = x.addr) || (decide (x.life = 2) && decide (y.life = 1))) := rfl
  cases hy : atB x.id B' with
  | none => rw [h2, hy] at hl; cases hl
  | some y =>
    have hyB := atB_mem hy
    have hyid := atB_id hy
    have hs : (B'.map (fin1 B B')).Pairwise (fun a b => a.id < b.id) := by
      rw [List.pairwise_map]
      exact hS.sb.imp fun h => by rw [fin_id, fin_id]; exact h
    obtain ⟨k, h3, h4⟩ := find_mem (key := Back.id) hs (List.mem_map.2 ⟨y, hyB, rfl⟩)
    rw [fin_id, hyid] at h3
    refine ⟨k, _, h3, h4, ?_⟩
    have h5 : atB y.id B = some x := by rw [hyid]; exact atb_mem hR.sb hx
    unfold fin1
    rw [h5]
    simp only [hl]
theorem fin_same (B B' : List Back) : (B'.map (fin1 B B')).map plain = B'.map plain := by
  rw [List.map_map]
  refine List.map_congr_left fun y _ => ?_
  exact fin_plain B B' y
end Go.Proofs.YtghfefkmmobmgaaGreat.V
namespace Go.Proofs.YtghfefkmmobmgaaGreat.V
open Go.RowKit

/-! ### Plainly -/
theorem plain_right {V : List Vip} {B : List Back} (h : Right V B) : Right V (B.map plain) := by
  refine ⟨h.lv, by rw [List.length_map]; exact h.lb, h.sv, h.pv, h.gv, ?_, fun b hb => ?_, fun b hb => ?_⟩
  · rw [List.pairwise_map]
    exact h.sb
  · obtain ⟨x, hx, rfl⟩ := List.mem_map.1 hb
    exact h.gb x hx
  · obtain ⟨x, hx, rfl⟩ := List.mem_map.1 hb
    exact h.hv x hx
theorem plain_good {V : List Vip} {B : List Back} (h : Good V B) : Good V (B.map plain) := by
  refine ⟨plain_right h.right, h.v, fun b hb => ?_⟩
  obtain ⟨x, hx, rfl⟩ := List.mem_map.1 hb
  exact ⟨(h.b x hx).id, (h.b x hx).addr⟩
theorem kept_same {V : List Vip} {B : List Back} (h : Right V B) : V.all (kept1 V) = true := by
  refine List.all_eq_true.2 fun v hv => ?_
  unfold kept1
  rw [at_mem h.sv hv]
  simp
theorem leaves_same {V : List Vip} {B : List Back} (h : Right V B) {x : Back} (hx : x ∈ B) : leavesB x (B.map plain) = false := by
  have h1 : atB x.id (B.map plain) = some (plain x) := atb_mem (plain_right h).sb (List.mem_map.2 ⟨x, hx, rfl⟩)
  have h2 : leavesB x (B.map plain) = match atB x.id (B.map plain) with
    | none => true
    | some y => !decide (y.vip = x.vip) || (!decide (y.addr = x.addr) || (decide (x.life = 2) && decide (y.life = 1))) := rfl
  rw [h2, h1]
  have h3 : (plain x).vip = x.vip := rfl
  have h4 : (plain x).addr = x.addr := rfl
  have h5 : (plain x).life = x.life := rfl
  simp only [h3, h4, h5, decide_true, Bool.not_true, Bool.false_or, Bool.and_eq_false_iff, decide_eq_false_iff_not]
  omega
theorem flat_nil {α β : Type} {f : α → List β} {L : List α} (h : ∀ x, x ∈ L → f x = []) : L.flatMap f = [] := by
  rw [List.flatMap_eq_nil_iff]; exact h
theorem orders_same {V : List Vip} {B : List Back} (h : Right V B) : orders V V B (B.map plain) = [] := by
  have h1 : V.flatMap (modes1 V) = [] := flat_nil fun v hv => by
    have : modeOf V v = v.mode := by unfold modeOf; rw [at_mem h.sv hv]
    unfold modes1
    rw [this, decide_eq_true rfl]
  have h2 : B.flatMap (removes1 (B.map plain)) = [] := flat_nil fun x hx => by
    unfold removes1
    rw [leaves_same h hx]
  have h3 : V.flatMap (adds1 V) = [] := flat_nil fun v hv => by
    unfold adds1
    rw [at_mem h.sv hv]
  have h4 : (B.map plain).flatMap (backs1 B (B.map plain)) = [] := flat_nil fun y hy => by
    obtain ⟨x, hx, rfl⟩ := List.mem_map.1 hy
    have e : atB (plain x).id B = some x := atb_mem h.sb hx
    unfold backs1
    rw [e]
    simp only [leaves_same h hx]
    unfold old1
    rw [decide_eq_true (show x.weight = (plain x).weight from rfl), decide_eq_true (show x.life = (plain x).life from rfl)]
    rfl
  unfold orders
  rw [h1, h2, h3, h4]
  rfl
theorem like_same {V : List Vip} {B : List Back} : (rowsEq eqV V V && rowsEq likeB B (B.map plain)) = true := by
  have h1 : rowsEq eqV V V = true := rowsEq_all rfl fun j x y _ hx hy => by
    rw [hx] at hy; injection hy with hy; subst hy
    simp [eqV, vipD, eqD]
  have h2 : rowsEq likeB B (B.map plain) = true := rowsEq_all (by rw [List.length_map]) fun j x y _ hx hy => by
    rw [List.getElem?_map, hx] at hy
    simp only [Option.map_some, Option.some.injEq] at hy
    subst hy
    show eqB (plain x) (plain x) = true
    simp [eqB, backD, eqD]
  rw [h1, h2]
  rfl

section
attribute [local irreducible] Fn CallVC OpVC

/-- Orders of which one can't be done. -/
theorem applyE_fn (S : Nat → (List Vip × List Back) × Int) (L : List Ord) (n : Nat) (e : Int) (he : e ≠ 0) (hn : n < L.length) (hL : ∀ x, x ∈ L → x.ok) (hlen : L.length ≤ 1000000) (hG : ∀ k, Good (S k).1.1 (S k).1.2)
    (hS : ∀ (k : Nat) o, k < n → L[k]? = some o → doF (S k).1.1 (S k).1.2 (S k).2 o = (S (k + 1), 0)) (hE : ∀ o, L[n]? = some o → (doF (S n).1.1 (S n).1.2 (S n).2 o).2 = e) :
    Fn Tryz.prog 9 [stateD (S 0).1.1 (S 0).1.2 (S 0).2, rowsO L] fun d => d = .tup [stateD (S n).1.1 (S n).1.2 (S n).2, intD e] := by
  refine fnOf [] Tryz.func9 rfl (by kernel_rfl) (Nat.le_of_ble_eq_true rfl) ?_
  conv => whnf
  refine ⟨Nat, fun k => ⟨[(12, intD k), (11, intD L.length), (10, rowsO L), (4, .loc 1 0), (2, .loc 0 0)], [(0, .cells 39 [rowsV (S k).1.1, rowsB (S k).1.2, .v (.int .u64 (S k).2)]), (1, .cells 39 [.v (.slice none 0 0), .v (.slice none 0 0), .v (.int .u64 0)])], 2, ([], 0)⟩,
    fun k => k ≤ n, fun k => n - k, ⟨0, [], [], ?_, Nat.zero_le _⟩, ?_⟩
  · repeat' (first | exact trivial | exact .inl (DLe.refl _) | exact .inl (DLe.nil _ _) | (refine .inr ⟨rfl, _, ?_, rfl⟩; rfl) | exact rfl | exact Nat.zero_le _ | constructor)
  · intro k hk
    conv => whnf
    refine Fork.intro (fun h1 => ?_) (fun h1 => ?_)
    · have hlt : (k : Int) < L.length := of_decide_eq_true h1
      conv => whnf
      refine ⟨rfl, ⟨by omega, hlt⟩, fun o hx => ?_⟩
      have hxk : L[k]? = some o := by simpa using hx
      have hdo := do_fn (S k).1.1 (S k).1.2 (S k).2 o (hL o (List.mem_of_getElem? hxk)) (hG k)
      by_cases hkn : k = n
      · subst hkn
        have hE' := hE o hxk
        rw [hE'] at hdo
        conv => whnf
        refine CallVC.pure hdo rfl ?_
        rintro _ rfl
        conv => whnf
        refine Fork.intro (fun h2 => ?_) (fun h2 => ?_)
        · conv => whnf
          rfl
        · simp at h2
          exact absurd h2 he
      · rw [hS k o (by omega) hxk] at hdo
        conv => whnf
        refine CallVC.pure hdo rfl ?_
        rintro _ rfl
        conv => whnf
        rw [wrap_next (show k < L.length by omega) (by omega)]
        refine ⟨k + 1, [], [], ?_, by show k + 1 ≤ _; omega, by show n - (k + 1) < n - k; omega⟩
        repeat' (first | exact trivial | exact .inl (DLe.refl _) | exact .inl (DLe.nil _ _) | (refine .inr ⟨rfl, _, ?_, rfl⟩; rfl) | exact rfl | exact Nat.zero_le _ | constructor)
    · have hge : ¬ (k : Int) < L.length := of_decide_eq_false h1
      omega
end

/-- A row written out. -/
theorem lit_rows {α : Type} {e : Nat} {enc : α → List D} {L : List α} (hf : ∀ y d, d ∈ enc y → flatD 4 d = true) : DLe (.lit e (L.map enc)) (.rows α e enc L) := fun C v h => by
  cases h with
  | lit b o g hc hp hl hcell hrep =>
    rename_i p c
    have hm : ∀ (i : Nat) x, L[i]? = some x → (L.map enc)[i]? = some (enc x) := fun i x hx => by rw [List.getElem?_map, hx]; rfl
    have := Rep.rows (C := C) (α := α) (e := e) (enc := enc) (L := L) (p := p) (c := c) b o g (by simpa using hc) (fun hn => hp (by simpa using hn)) (fun i x hx => hl i _ (hm i x hx)) (fun i x j d hx hd => hcell i _ j d (hm i x hx) hd)
      (fun i x j d hx hd => flat_rep 4 d _ (hf x d (List.mem_of_getElem? hd)) (hrep i _ j d (hm i x hx) hd))
    simpa using this
theorem ordD_flat (y : Ord) (d : D) (h : d ∈ ordD y) : flatD 4 d = true := by
  simp only [ordD, List.mem_cons, List.not_mem_nil, or_false] at h
  rcases h with rfl | rfl | rfl | rfl | rfl | rfl | rfl | rfl <;> rfl
theorem app_lit {f : FuncId} {s : D} {L : List Ord} {Q : D → Prop} (h : Fn Tryz.prog f [s, rowsO L] Q) : Fn Tryz.prog f [s, .lit 8 (L.map ordD)] Q :=
  Fn.le h fun C vs hr => ⟨hr.1, fun j d u hd hu => by
    match j, hd with
    | 0, hd => exact hr.2 0 d u hd hu
    | 1, hd =>
      simp only [List.getElem?_cons_succ, List.getElem?_cons_zero, Option.some.injEq] at hd
      subst hd
      exact lit_rows ordD_flat C u (hr.2 1 _ u rfl hu)
    | j + 2, hd => simp at hd⟩
end Go.Proofs.YtghfefkmmobmgaaGreat.V
namespace Go.Proofs.YtghfefkmmobmgaaGreat.V
open Go.RowKit
attribute [local irreducible] Fn CallVC OpVC

set_option maxHeartbeats 1000000 in
theorem diffSame_fn (X : List Deed) (last : Int) (o : Ord) (hX : ∀ x, x ∈ X → x.ok) (h0 : 0 ≤ last ∧ last ≤ 18446744073709551615) (ho : o.ok) :
    Fn Tryz.prog 3 [rowsDeed X, .v (.int .u64 last), .agg (ordD o)] fun d => d = boolD true := by
  refine fnOf [(2, [0,1,3,2,4,5,6,7,8,9])] Tryz.func3 rfl (by kernel_rfl) (Nat.le_of_ble_eq_true rfl) ?_
  have hm := made_fn X hX
  have hG := made_good hX
  generalize made X = p1 at *
  obtain ⟨V, B⟩ := p1
  dsimp only at hm hG
  have hlv := hG.right.lv
  have hlb := hG.right.lb
  have hP := plain_good hG
  conv => whnf
  refine CallVC.pure hm rfl ?_
  rintro _ rfl
  conv => whnf
  refine CallVC.pure (plainly_fn V B (by omega)) rfl ?_
  rintro _ rfl
  conv => whnf
  refine CallVC.pure (between_fn V V B (B.map plain) last (by omega) (by omega) (by omega) (by rw [List.length_map]; omega) hG.v hG.v hG.b hP.b h0.1) rfl ?_
  rintro _ rfl
  have hb : between V V B (B.map plain) last = match mayB V B, mayB V (B.map plain), decide (last ≥ 4611686018427387904), V.all (kept1 V) with
    | true, true, false, true => some (numTo last (orders V V B (B.map plain)) (orders V V B (B.map plain)).length)
    | _, _, _, _ => none := rfl
  rw [(right_iff hG.v).2 hG.right, (right_iff hG.v).2 hP.right, kept_same hG.right, orders_same hG.right] at hb
  have hlike := dlike_fn V V B (B.map plain) (by omega) (by omega)
  rw [like_same] at hlike
  have hpl := plainly_fn V B (by omega)
  have hnum : numTo last ([] : List Ord) ([] : List Ord).length = [] := rfl
  rw [hnum] at hb
  cases h1 : decide (last ≥ 4611686018427387904) with
  | true =>
    rw [h1] at hb
    rw [hb]
    have h2 : ¬ last < 4611686018427387904 := by have := of_decide_eq_true h1; omega
    conv => whnf
    refine Fork.intro (fun h3 => ?_) (fun _ => ?_)
    · simp [decide_eq_false h2] at h3
    conv => whnf
    refine CallVC.pure hpl rfl ?_
    rintro _ rfl
    conv => whnf
    refine CallVC.pure hlike rfl ?_
    rintro _ rfl
    conv => whnf
    refine Fork.intro (fun _ => ?_) (fun h3 => ?_)
    · conv => whnf
      refine CallVC.pure dlives_fn rfl ?_
      rintro _ rfl
      conv => whnf
    · have := of_decide_eq_true h1
      have := of_decide_eq_false h3
      omega
  | false =>
    rw [h1] at hb
    rw [hb]
    have h2 : last < 4611686018427387904 := by have := of_decide_eq_false h1; omega
    conv => whnf
    refine Fork.intro (fun h3 => ?_) (fun _ => ?_)
    · simp [decide_eq_true h2] at h3
    conv => whnf
    refine CallVC.pure hpl rfl ?_
    rintro _ rfl
    conv => whnf
    refine CallVC.pure hlike rfl ?_
    rintro _ rfl
    conv => whnf
    refine Fork.intro (fun h3 => ?_) (fun _ => ?_)
    · have := of_decide_eq_true h3; omega
    clear hpl hlike hm hb hnum
    have hA : ∀ (L : List Ord) (n : Nat), n < L.length → L.length ≤ 3 → (∀ x, x ∈ L → x.ok) → n ≤ 1 → (∀ (k : Nat) x, k < n → L[k]? = some x → x.count = last + 1 ∧ x.op = 7) → (∀ x, L[n]? = some x → x.count = last + 1 + n ∧ x.op = 9) →
        Fn Tryz.prog 9 [stateD V B last, .lit 8 (L.map ordD)] fun d => d = .tup [stateD V B (match n with | 0 => last | _ + 1 => last + 1), intD 3] := fun L n hn hl hok hn1 hlow hat =>
      app_lit (applyE_fn (fun k => ((V, B), match k with | 0 => last | _ + 1 => last + 1)) L n 3 (by decide) hn hok (by omega) (fun _ => hG) (fun k x hk hx => by
        obtain rfl : k = 0 := by omega
        obtain ⟨g1, g2⟩ := hlow 0 x hk hx
        have e : applyF V B x = ((V, B), 0) := by unfold applyF; rw [g2]; rfl
        dsimp only
        unfold doF
        rw [e, g1, decide_eq_false (by omega : ¬ last + 1 ≤ last)]
        rfl) (fun x hx => by
        obtain ⟨g1, g2⟩ := hat x hx
        have e : applyF V B x = ((V, B), 3) := by unfold applyF; rw [g2]; rfl
        dsimp only
        unfold doF
        rw [e, g1]
        match n, hn1 with
        | 0, _ => rw [decide_eq_false (by omega : ¬ last + 1 + ((0 : Nat) : Int) ≤ last)]; rfl
        | 1, _ => rw [decide_eq_false (by omega : ¬ last + 1 + ((1 : Nat) : Int) ≤ last + 1)]; rfl))
    have z : (⟨last + 1, 7, 0, 0, 0, 0, 0, 0⟩ : Ord).ok ∧ (⟨last + 2, 9, 0, 0, 0, 0, 0, 0⟩ : Ord).ok ∧ (⟨last + 3, 7, 0, 0, 0, 0, 0, 0⟩ : Ord).ok :=
      ⟨⟨⟨by show 0 ≤ last + 1; omega, by show last + 1 ≤ _; omega⟩, zi, zi, za, zp, zq, zi⟩, ⟨⟨by show 0 ≤ last + 2; omega, by show last + 2 ≤ _; omega⟩, zi, zi, za, zp, zq, zi⟩, ⟨⟨by show 0 ≤ last + 3; omega, by show last + 3 ≤ _; omega⟩, zi, zi, za, zp, zq, zi⟩⟩
    have a1 := hA [⟨last + 1, 7, 0, 0, 0, 0, 0, 0⟩, ⟨last + 2, 9, 0, 0, 0, 0, 0, 0⟩, ⟨last + 3, 7, 0, 0, 0, 0, 0, 0⟩] 1 (Nat.le_of_ble_eq_true rfl) (Nat.le_of_ble_eq_true rfl)
      (fun x hx => by
        simp only [List.mem_cons, List.not_mem_nil, or_false] at hx
        rcases hx with rfl | rfl | rfl
        · exact z.1
        · exact z.2.1
        · exact z.2.2) (by decide)
      (fun k x hk hx => by
        obtain rfl : k = 0 := by omega
        simp only [List.getElem?_cons_zero, Option.some.injEq] at hx
        subst hx
        exact ⟨rfl, rfl⟩)
      (fun x hx => by
        simp only [List.getElem?_cons_succ, List.getElem?_cons_zero, Option.some.injEq] at hx
        subst hx
        exact ⟨by show last + 2 = last + 1 + ((1 : Nat) : Int); omega, rfl⟩)
    have a2 := hA [⟨last + 1, 9, o.id, o.vip, o.addr, o.port, o.proto, o.num⟩] 0 (Nat.le_of_ble_eq_true rfl) (Nat.le_of_ble_eq_true rfl)
      (fun x hx => by
        rw [List.mem_singleton.1 hx]
        exact ⟨⟨by show 0 ≤ last + 1; omega, by show last + 1 ≤ _; omega⟩, ho.id, ho.vip, ho.addr, ho.port, ho.proto, ho.num⟩) (by decide)
      (fun k x hk hx => by omega)
      (fun x hx => by
        simp only [List.getElem?_cons_zero, Option.some.injEq] at hx
        subst hx
        exact ⟨by show last + 1 = last + 1 + ((0 : Nat) : Int); omega, rfl⟩)
    clear hA
    have a1 : Fn Tryz.prog 9 [stateD V B last, .lit 8 ([⟨last + 1, 7, 0, 0, 0, 0, 0, 0⟩, ⟨last + 2, 9, 0, 0, 0, 0, 0, 0⟩, ⟨last + 3, 7, 0, 0, 0, 0, 0, 0⟩].map ordD)] fun d => d = .tup [stateD V B (last + 1), intD 3] := a1
    have a2 : Fn Tryz.prog 9 [stateD V B last, .lit 8 ([⟨last + 1, 9, o.id, o.vip, o.addr, o.port, o.proto, o.num⟩].map ordD)] fun d => d = .tup [stateD V B last, intD 3] := a2
    have w1 : IntKind.u64.wrap (last + 1) = last + 1 := IntWalk.u64_in _ (by omega)
    have w2 : IntKind.u64.wrap (last + 2) = last + 2 := IntWalk.u64_in _ (by omega)
    have w3 : IntKind.u64.wrap (last + 3) = last + 3 := IntWalk.u64_in _ (by omega)
    conv => whnf
    refine ⟨by decide, ?_⟩
    conv => whnf
    rw [w1, w2, w3]
    refine CallVC.pure a1 rfl ?_
    rintro _ rfl
    conv => whnf
    refine ⟨by decide, ?_⟩
    conv => whnf
    refine CallVC.pure a2 rfl ?_
    rintro _ rfl
    conv => whnf
    rw [w1]
    refine Fork.intro (fun _ => ?_) (fun h => absurd rfl (of_decide_eq_false h))
    conv => whnf
    refine Fork.intro (fun _ => ?_) (fun h => absurd rfl (of_decide_eq_false h))
    conv => whnf
    refine CallVC.pure dlives_fn rfl ?_
    rintro _ rfl
    conv => whnf
end Go.Proofs.YtghfefkmmobmgaaGreat.V
