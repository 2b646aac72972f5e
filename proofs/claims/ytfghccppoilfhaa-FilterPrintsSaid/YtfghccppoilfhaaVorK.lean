/-
  Contracts with an object of one's own that is turned, and with a new row for an answer. Conditions: the table of types says what the program's says; functions are entered; plans are ones.
-/
import Derived.Test.YtfghccppoilfhaaK1
namespace Go.Proofs.Ytfghccppoilfhaa.V
open Go.RowKit

def ObR (P : Program) (f : FuncId) (el : TypeId) (X rest X' : List D) (α : Type) (er : TypeId) (e : Nat) (enc : α → List D) (L : List α) : Prop :=
  hasBody P f ∧ ∀ (w : World) (B : Nat → Prop) (b : Nat) (c : Array Value) (args' : List Value), (∀ k, B k → k < w.heap.size ∧ k ≠ b) → w.heap[b]? = some (.cells c el (0, 0)) → reps (baseCtx w B) X c.toList → reps (baseCtx w B) rest args' →
    Calls P f (Value.pointer (some ⟨b, 0, none⟩) :: args').toArray w fun x w' => ∃ v xs c', x = .returned v ∧ Turned b w w' ∧ w'.heap[b]? = some (.cells c' el (0, 0)) ∧
      reps (baseCtx w' fun k => (B k ∨ w.heap.size ≤ k) ∧ k < w'.heap.size ∧ v.ownBlock ≠ some k) X' c'.toList ∧
      (∃ p l c, v = .slice p l c) ∧ (∀ g, v.ownBlock = some g → w.heap.size ≤ g) ∧ w'.ownsRow 0 er e v L.length xs ∧ (∀ (i : Nat) x, L[i]? = some x → (enc x).length = e) ∧
      ∀ (i : Nat) x (j : Nat) d u, L[i]? = some x → (enc x)[j]? = some d → xs[i * e + j]? = some u → ∀ C, Rep C d u

section
variable {P : Program} {tt : TT} {pl : Plans} {s : St} {K : D → St → Prop} {f : FuncId} {el : TypeId} {X rest X' : List D} {α : Type} {er : TypeId} {e : Nat} {enc : α → List D} {L : List α}

theorem cut_base {E : Env} {H : List (Nat × LO)} {nx : Nat} {σ : Nat → Nat} {τ : Nat → Value} {w : World} {d : D} {v : Value} (hd : cutOk 6 0 d = true) (hv : Rep (ctxOf E H nx σ τ w) d v) : Rep (baseCtx w (ctxOf E H nx σ τ w).ok) d v :=
  (cut_rep 6 d _ v hd hv).mono ⟨fun _ _ _ h => h, fun _ h => h, fun _ _ _ h => absurd h.1 (Nat.not_lt_zero _), fun _ _ h => absurd h.1 (Nat.not_lt_zero _), fun _ _ _ h => absurd h.1 (Nat.not_lt_zero _)⟩

theorem flag_state {E : Env} {σ : Nat → Nat} {τ : Nat → Value} {a : Act} {w : World} (hs : SR E s σ τ a w) : SR E ⟨(1000000, .junk) :: s.F, s.H, s.nx, s.G⟩ σ τ a w :=
  ⟨hs.heap, hs.defers, hs.size, fun i d hd => by
    by_cases hi : i = 1000000
    · subst hi
      rw [lget_same] at hd
      injection hd with hd
      subst hd
      exact .junk
    · rw [lget_ne _ _ hi] at hd
      exact hs.slots i d hd, hs.ghost, hs.room⟩
theorem fillD_length {place : Nat → Option (Nat × Nat)} : ∀ {ps : List (Nat × D)} {l l' : List D}, fillD place l ps = some l' → l'.length = l.length
  | [], l, l', h => by rw [fillD] at h; injection h with h; rw [h]
  | (i, d) :: r, l, l', h => by
    rw [fillD] at h
    split at h
    · split at h
      · split at h
        · rename_i l2 h2
          rw [fillD_length h, (putD_spec _ _ _ _ h2).1]
        · cases h
      · cases h
    · cases h
theorem op_buildOwn (htt : ttOk P tt) {o : Oper} {t er : TypeId} {n sz by_ : Nat} {zz : List Value} {ud : UD} {ti : TI} {ps : Array (Nat × Operand)} {l : List D} {β : Type} {enc : β → List D} {L : List β} (ho : o.op = .buildSlice t (n + 1) ps) (ht : tfind tt t = some ti) (hti : ti.ud = .slice er) (he : tfind tt er = some ⟨ud, sz, by_, zz⟩)
    (hsz : Nat.ble 1 sz = true) (hzl : Nat.beq zz.length sz = true) (hmax : Nat.ble ((n + 1) * sz) 16777216 = true) (hl : fillD (fun i => some (i * sz, sz)) (repeatD (zz.map .v) (n + 1)) (partsD s ps.toList) = some l) (hL : chunksD sz (n + 1) l = some (L.map enc)) (hfl : ∀ x, (enc x).all (flatD 1) = true)
    {g : Bool} {K : D → St → Prop} (h : K (.grow s.nx) ⟨s.F, (s.nx, .grow β er sz enc L) :: s.H, s.nx + 1, s.G⟩) : OpVC P g o s K := by
  intro E σ τ a w hs next Q hn
  have hz0 : 0 < sz := Nat.le_of_ble_eq_true hsz
  have hzl := Nat.eq_of_beq_eq_true hzl
  have hmax := Nat.le_of_ble_eq_true hmax
  have hp : repsP (ctxOf E s.H s.nx σ τ w) (partsD s ps.toList) (ps.map fun (x : Nat × Operand) => (x.1, a.eval x.2)).toList := by
    rw [Array.toList_map]; exact partsD_rep hs ps.toList
  obtain ⟨de, i, z, k1, _, _, k4, _⟩ := view_spec (tfind_view htt ht)
  rw [hti] at k4
  have := ud_slice k4; subst this
  obtain ⟨_, q, zv, q1, q2, q3, _, q5, _, q7⟩ := view_spec (tfind_view htt he)
  dsimp only at q2 q3 q7
  have hzs : zv.cells.size = sz := by
    have : zv.cells.toList = zz := q7
    rw [← hzl, ← this]; simp
  have hrz : reps (ctxOf E s.H s.nx σ τ w) (repeatD (zz.map .v) (n + 1)) ((Array.range ((n + 1) * sz)).map (zv.cells[· % zv.cells.size]!)).toList := by
    refine ⟨by simp [repeatD_length, hzl], fun j d u hd hu => ?_⟩
    have hj : j < (n + 1) * sz := by
      have := (List.getElem?_eq_some_iff.1 hd).1
      simpa [repeatD_length, hzl] using this
    rw [repeatD_get _ _ _ (by simpa [hzl] using hj)] at hd
    simp only [List.length_map, hzl] at hd
    have hm : j % sz < zv.cells.size := by rw [hzs]; exact Nat.mod_lt _ hz0
    simp only [Array.toList_map, List.getElem?_map, Array.getElem?_toList, Array.getElem?_range, hj, if_true, Option.map_some, Option.some.injEq, hzs] at hu
    rw [getElem!_pos zv.cells _ hm] at hu
    subst hu
    exact (zero_reps q7).2 (j % sz) d _ hd (by simp [hm])
  obtain ⟨c', h1, h2⟩ := fill_run (ctx_sane hs.heap) (fun i => some (i * sz, sz)) _ _ _ l _ hp hrz hl
  obtain ⟨g1, g2⟩ := chunksD_spec _ _ _ _ hL
  rw [List.length_map] at g1
  have hrun : (execOp a.eval o).run P w = .ok (.value (.slice (some ⟨w.heap.size, 0, none⟩) (n + 1) (n + 1))) (w.alloc (.cells c' er)) := by
    have a1 : ¬ (n.succ * sz > 2 ^ 24) := fun h9 => absurd hmax (by have h8 : n.succ * sz > 16777216 := h9; exact Nat.not_le.2 h8)
    have a2 : ¬ (n.succ * sz = 0) := by
      have := Nat.mul_pos (Nat.succ_pos n) hz0
      omega
    simp only [execOp, ho, Instr.buildSlice, Sem.run_bind, run_und k1, run_size q2, q5, Result.andThen_ok, a1, a2, if_false, zero_run q2 q3, Sem.run_pure, h1, newRow_at]
  have hin : ∀ (i : Nat) x (j : Nat) d, L[i]? = some x → (enc x)[j]? = some d → ∃ u, c'[i * sz + j]? = some u ∧ Rep (ctxOf E s.H s.nx σ τ w) d u := by
    intro i x j d hx hd
    have hx2 : (L.map enc)[i]? = some (enc x) := by rw [List.getElem?_map, hx]; rfl
    obtain ⟨h3, h4⟩ := g2 i _ hx2
    have hj : j < sz := by have := (List.getElem?_eq_some_iff.1 hd).1; omega
    rw [h3, List.getElem?_take_of_lt hj, List.getElem?_drop] at hd
    obtain ⟨u, h5, h6⟩ := reps_get h2 hd
    exact ⟨u, by simpa using h5, h6⟩
  have hcs : c'.size = (n + 1) * sz := by
    have e1 := h2.1
    have e2 := hrz.1
    have e3 := fillD_length hl
    rw [repeatD_length, List.length_map, hzl] at e3
    have : c'.toList.length = l.length := e1
    simp at this
    omega
  obtain ⟨τ', r6, r7⟩ := grow_state (dst := .v (.slice none 0 0)) (u := .slice none 0 0) (el := er) (e := sz) (old := []) (v' := .slice (some ⟨w.heap.size, 0, none⟩) L.length (n + 1)) (β := β) (enc := enc) (L := L) (xs := c'.toList) (w' := w.alloc (.cells c' er)) hs rfl .v (Nat.le_refl _)
    (World.grownBy_alloc w (.cells c' er) _) (.inr (.inr rfl)) ⟨_, _, _, rfl⟩ ⟨by rw [Array.length_toList, hcs, g1], .inr ⟨w.heap.size, n + 1, c', rfl, Nat.zero_le _, heap_alloc_new w _, Nat.le_of_eq g1, by
      have : n + 1 ≤ (n + 1) * sz := Nat.le_mul_of_pos_right _ hz0
      unfold maxLen; omega, hcs, by rw [g1, ← hcs]; exact List.take_of_length_le (by simp)⟩⟩ (fun i x h => by
      have hx2 : (L.map enc)[i]? = some (enc x) := by rw [List.getElem?_map, h]; rfl
      exact (g2 i _ hx2).2) (fun i x j d u hx hd hu => by
      obtain ⟨u', h5, h6⟩ := hin i x j d hx hd
      rw [Array.getElem?_toList, h5] at hu
      injection hu with hu; subst hu
      exact flat_rep 1 d _ (all_at (hfl x) hd) h6)
  unfold Oper.wp
  rw [hrun, show Value.slice (some ⟨w.heap.size, 0, none⟩) (n + 1) (n + 1) = .slice (some ⟨w.heap.size, 0, none⟩) L.length (n + 1) by rw [g1]]
  exact hn _ _ _ _ _ _ h r6 (.grow ⟨Nat.lt_succ_self _, r7.symm⟩) (fun _ => (Below.refl _ _).alloc (Nat.le_refl _) _)

theorem obR_of_wpc (htt : ttOk P tt) (hb : entersAll P = true) (hm : P.follows .mixedOrders = true) {fn : Func} {c : Code} (hfn : P.funcs[f]? = some fn) (hc : fn.body = some c) (hok : codeOk pl fn.ntmps c = true) (hX' : X'.all (cutOk 6 0) = true)
    (hn : rest.length + 1 ≤ fn.ntmps) {F0 : List (Nat × D)} (hF0 : F0 = enumD (.loc 0 0 :: rest) 0 ∨ F0 = (1000000, .junk) :: enumD (.loc 0 0 :: rest) 0) (h : wpc P tt pl c ⟨F0, [(0, .cells el X)], 1, ([0], 1)⟩ fun x s' => endK x (resK tt s' fn.results.toList fun l => seeD (oneD l) fun d => obAt el s' fun X1 => X1 = X' ∧ rowAns s' d α er e enc L)) : ObR P f el X rest X' α er e enc L := by
  refine ⟨⟨fn, hfn, by rw [hc]; rfl⟩, fun w B b cc args' hB hblk hX hr => ?_⟩
  have hsz : b < w.heap.size := (Array.getElem?_eq_some_iff.1 hblk).1
  let σ0 : Nat → Nat := fun _ => b
  let τ0 : Nat → Value := fun _ => .slice none 0 0
  have hown : ∀ id k, owned [(0, .cells el X)] σ0 τ0 id k → id = 0 ∧ k = b := by
    intro id k ho
    by_cases hi : id = 0
    · subst hi
      rcases ho with ⟨_, _, h1, h2⟩ | ⟨_, _, _, _, _, h1, h2⟩ | ⟨_, h1, h2⟩
      rotate_left 2
      · rw [lget_same] at h1; cases h1
      · exact ⟨rfl, h2⟩
      · rw [lget_same] at h1; cases h1
    · rcases ho with ⟨_, _, h1, h2⟩ | ⟨_, _, _, _, _, h1, h2⟩ | ⟨_, h1, h2⟩ <;> (rw [lget_ne _ _ hi] at h1; cases h1)
  have hle : (baseCtx w B).Le (ctxOf (obEnv w B b fn.ntmps) [(0, .cells el X)] 1 σ0 τ0 w) :=
    ⟨fun _ _ _ h => h, fun k hk => ⟨.inl hk, (hB k hk).1, fun id ho => (hB k hk).2 (hown id k ho).2⟩, fun _ _ _ h => h.elim, fun _ _ h => h.elim, fun _ _ _ h => h.elim⟩
  have hr1 : reps (ctxOf (obEnv w B b fn.ntmps) [(0, .cells el X)] 1 σ0 τ0 w) (.loc 0 0 :: rest) (.pointer (some ⟨b, 0, none⟩) :: args') :=
    reps_cons (.loc ⟨Nat.zero_lt_one, rfl⟩) ⟨hr.1, fun j d u hd hu => (hr.2 j d u hd hu).mono hle⟩
  have hlen : args'.length + 1 ≤ fn.ntmps := by rw [hr.1]; exact hn
  have hs0 : SR (obEnv w B b fn.ntmps) ⟨enumD (.loc 0 0 :: rest) 0, [(0, .cells el X)], 1, ([0], 1)⟩ σ0 τ0 { tmps := (Value.pointer (some ⟨b, 0, none⟩) :: args').toArray ++ Array.replicate (fn.ntmps - (Value.pointer (some ⟨b, 0, none⟩) :: args').toArray.size) undef, defers := [] } w := by
    refine ⟨⟨⟨rfl, rfl, rfl, Nat.le_refl _, fun _ _ _ => rfl, Nat.le_refl _⟩, fun k hk => ⟨fun h => (hB k hk).2 h, (hB k hk).1⟩, fun id el' l h => ?_, fun id α el' e enc L h => ?_, fun i j k h1 h2 => ?_, fun id o h => ?_, fun _ => ⟨_, _, _, rfl⟩, fun id o h => by
      by_cases hi : id = 0
      · subst hi; rw [lget_same] at h; cases h
      · rw [lget_ne _ _ hi] at h; cases h⟩, rfl, ?_, fun i d hd => enter_slots hr1 fn.ntmps i d hd, fun G d v hx => ?_, Nat.le_refl _⟩
    · by_cases hi : id = 0
      · subst hi
        rw [lget_same] at h
        injection h with h; injection h with h1 h2; subst h1 h2
        exact ⟨.inl rfl, cc, hblk, by simpa using hX.1, fun j d u hd hu => (hX.2 j d u hd (by simpa using hu)).mono hle⟩
      · rw [lget_ne _ _ hi] at h; cases h
    · by_cases hi : id = 0
      · subst hi; rw [lget_same] at h; cases h
      · rw [lget_ne _ _ hi] at h; cases h
    · rw [(hown i k h1).1, (hown j k h2).1]
    · by_cases hi : id = 0
      · subst hi; exact Nat.zero_lt_one
      · rw [lget_ne _ _ hi] at h; cases h
    · simp [obEnv]; omega
    · obtain ⟨rfl, rfl, rfl⟩ := hx
      exact ⟨fun id h1 h2 => ⟨h1, h2⟩, Nat.le_refl _, .loc ⟨Nat.zero_lt_one, Nat.zero_lt_one, rfl⟩⟩
  have hs : SR (obEnv w B b fn.ntmps) ⟨F0, [(0, .cells el X)], 1, ([0], 1)⟩ σ0 τ0 { tmps := (Value.pointer (some ⟨b, 0, none⟩) :: args').toArray ++ Array.replicate (fn.ntmps - (Value.pointer (some ⟨b, 0, none⟩) :: args').toArray.size) undef, defers := [] } w := by
    rcases hF0 with rfl | rfl
    · exact hs0
    · exact flag_state hs0
  refine calls_of_wp hfn hc (wp_mono (wpc_sound (E := obEnv w B b fn.ntmps) htt hb hm c hok _ _ _ _ _ w h hs) fun x a1 w1 hh => ?_)
  obtain ⟨x, s1, σ1, τ1, rfl, h1, h2⟩ := hh
  have fin : resK tt s1 fn.results.toList (fun l => seeD (oneD l) fun d => obAt el s1 fun X1 => X1 = X' ∧ rowAns s1 d α er e enc L) →
      a1.defers = [] ∧ ∃ v, (results fn a1.tmps).run P w1 = .ok v w1 ∧ ∃ u xs c', Ending.returned v = .returned u ∧ Turned b w w1 ∧ w1.heap[b]? = some (.cells c' el (0, 0)) ∧
      reps (baseCtx w1 fun k => (B k ∨ w.heap.size ≤ k) ∧ k < w1.heap.size ∧ u.ownBlock ≠ some k) X' c'.toList ∧
      (∃ p l c, u = .slice p l c) ∧ (∀ g, u.ownBlock = some g → w.heap.size ≤ g) ∧ w1.ownsRow 0 er e u L.length xs ∧ (∀ (i : Nat) x, L[i]? = some x → (enc x).length = e) ∧
      ∀ (i : Nat) x (j : Nat) d u, L[i]? = some x → (enc x)[j]? = some d → xs[i * e + j]? = some u → ∀ C, Rep C d u := by
    intro hres
    obtain ⟨l, vs, h3, h4, h5⟩ := resK_run htt h2 _ _ hres
    rw [seeD_eq] at h3
    obtain ⟨X1, h6, rfl, h7⟩ := obAt_spec h3
    have hσ : σ1 0 = b := by
      obtain ⟨_, _, hg⟩ := h2.ghost ([0], 1) (.loc 0 0) _ ⟨rfl, rfl, rfl⟩
      cases hg with
      | loc hh =>
        obtain ⟨_, _, hh⟩ := hh
        simp at hh
        exact hh.symm
    obtain ⟨_, c1, h8, h9, h10⟩ := h2.heap.cells 0 el X1 h6
    rw [hσ] at h8
    have hown0 : owned s1.H σ1 τ1 0 b := .inl ⟨_, _, h6, hσ.symm⟩
    have hturn : Turned b w w1 := ⟨h2.heap.kept.os, h2.heap.kept.tape, h2.heap.kept.output, h2.heap.kept.size, fun k hk hne => h2.heap.kept.block k hk hne, h2.heap.kept.drawn⟩
    have hcells : ∀ u : Value, (∀ k, u.ownBlock = some k → ∃ id, owned s1.H σ1 τ1 id k) → reps (baseCtx w1 fun k => (B k ∨ w.heap.size ≤ k) ∧ k < w1.heap.size ∧ u.ownBlock ≠ some k) X1 c1.toList := fun u hu => by
      refine ⟨by simp [h9], fun j d v hd hv => ?_⟩
      refine (cut_base (all_at hX' hd) (h10 j d v hd (by simpa using hv))).mono ⟨fun _ _ _ h => h, fun k hk => ⟨?_, hk.2.1, fun hq => ?_⟩, fun _ _ _ h => h, fun _ _ h => h, fun _ _ _ h => h⟩
      · rcases hk.1 with h | h | h
        · exact .inl h
        · exact absurd (by rw [show k = b from h]; exact hown0) (hk.2.2 0)
        · exact .inr h
      · obtain ⟨id, ho⟩ := hu k hq
        exact hk.2.2 id ho
    have hone := oneD_rep h4
    generalize oneD l = d at *
    unfold rowAns at h7
    split at h7
    · rename_i id
      obtain ⟨hfl, hg⟩ := h7
      have hv : oneV vs = τ1 id := by
        cases hone with
        | grow hh => exact hh.2
      have hid0 : ∀ g, (τ1 id).ownBlock = some g → owned s1.H σ1 τ1 id g := fun g hq => .inr (.inl ⟨_, _, _, _, _, hg, hq⟩)
      obtain ⟨k1, xs, k2, k3, k4⟩ := h2.heap.grow id α er e enc L hg
      refine ⟨h2.defers, _, results_at h5, τ1 id, xs, c1, by rw [hv], hturn, h8, hcells _ fun k hq => ⟨id, hid0 k hq⟩, h2.heap.slices id, fun g hq => ?_, k2, k3, fun i x j d u hx hd hu C => flat_rep 1 d u (all_at (hfl x) hd) (k4 i x j d u hx hd hu)⟩
      rcases k1 g hq with h | h
      · have h : g = b := h
        subst h
        have := h2.heap.apart id 0 g (hid0 g hq) hown0
        subst this
        rw [h6] at hg; cases hg
      · exact h
    · subst h7
      have hv : oneV vs = .slice none 0 0 := by
        generalize oneV vs = y at hone
        cases hone
        rfl
      exact ⟨h2.defers, _, results_at h5, .slice none 0 0, [], c1, (by rw [hv]), hturn, h8, hcells _ (fun k hq => by cases hq), ⟨_, _, _, rfl⟩, (fun g hh => (by cases hh)), owns_nil w1 er e, (fun i x hx => (by simp at hx)), (fun i x j d u hx => (by simp at hx))⟩
    · exact h7.elim
  cases x with
  | normal => exact fin h1
  | ret => exact fin h1
  | exit i => exact h1.elim

theorem CallVC.obr {i : Nat} (hf : ObR P f el X rest X' α er e enc L) (hid : lget s.H i = some (.cells el X)) (hX : X.all (cutOk 6 0) = true) (hcut : rest.all (cutOk 6 0) = true)
    (h : K (.grow s.nx) ⟨s.F, (i, .cells el X') :: (s.nx, .grow α er e enc L) :: s.H, s.nx + 1, s.G⟩) : CallVC P false f (.loc i 0 :: rest) s K := by
  refine ⟨hf.1, fun E σ τ a w args0 hs hr => ?_⟩
  obtain ⟨_, c, hblk, hcs, hcr⟩ := hs.heap.cells i el X hid
  have hown : owned s.H σ τ i (σ i) := .inl ⟨_, _, hid, rfl⟩
  have hinx : i < s.nx := hs.heap.below i _ hid
  match args0, hr with
  | [], hr => have := hr.1; simp at this
  | v0 :: args', hr =>
  have hv0 : v0 = .pointer (some ⟨σ i, 0, none⟩) := by
    have := hr.2 0 (.loc i 0) v0 rfl rfl
    cases this with
    | loc hh => exact hh.2
  subst hv0
  refine (hf.2 w (ctxOf E s.H s.nx σ τ w).ok (σ i) c args' (fun k hk => ⟨hk.2.1, fun he => hk.2.2 i (he ▸ hown)⟩) hblk ⟨by simpa using hcs, fun j d u hd hu => cut_base (all_at hX hd) (hcr j d u hd (by simpa using hu))⟩
    ⟨by have := hr.1; simpa using this, fun j d u hd hu => cut_base (all_at hcut hd) (hr.2 (j + 1) d u (by simpa using hd) (by simpa using hu))⟩).mono fun x w' hh => ?_
  obtain ⟨v, xs, c', rfl, ht, hblk', hX2, hsl, hbk, hrow, hlen, hrep⟩ := hh
  have hlt : σ i < w.heap.size := (Array.getElem?_eq_some_iff.1 hblk).1
  have hlt' : σ i < w'.heap.size := Nat.lt_of_lt_of_le hlt ht.size
  let w1 : World := { w' with heap := w'.heap.set (σ i) (.cells c el (0, 0)) hlt' }
  have hw1 : ∀ k, k ≠ σ i → w'.heap[k]? = w1.heap[k]? := fun k hk => by
    show _ = (w'.heap.set (σ i) _ hlt')[k]?
    rw [Array.getElem?_set]
    rw [if_neg (fun h => hk h.symm)]
  have hwi : w1.heap[σ i]? = some (.cells c el (0, 0)) := by
    show (w'.heap.set (σ i) _ hlt')[σ i]? = _
    rw [Array.getElem?_set]
    rw [if_pos rfl]
  have hsz1 : w'.heap.size = w1.heap.size := by show _ = (w'.heap.set (σ i) _ hlt').size; simp
  have hu : Under w.heap.size w w1 := ⟨⟨ht.os, ht.tape, ht.output, by rw [← hsz1]; exact ht.size, fun k hk => by
    by_cases hki : k = σ i
    · subst hki; rw [hwi, hblk]
    · rw [← hw1 k hki]; exact ht.block k hk hki⟩, ht.drawn⟩
  have hrow1 : w1.ownsRow 0 er e v L.length xs := by
    obtain ⟨q0, q⟩ := hrow
    refine ⟨q0, ?_⟩
    rcases q with q | ⟨g, cap, cur, q1, q2, q3, q4⟩
    · exact .inl q
    · refine .inr ⟨g, cap, cur, q1, q2, ?_, q4⟩
      have : w.heap.size ≤ g := hbk g (by rw [q1]; rfl)
      rw [← hw1 g (by omega)]; exact q3
  let τ1 : Nat → Value := fun i => if i = s.nx then v else τ i
  have hτ : τ1 s.nx = v := if_pos rfl
  have own : ∀ id k, owned [(s.nx, .grow α er e enc L)] σ τ1 id k → id = s.nx := by
    intro id k ho
    by_cases hid : id = s.nx
    · exact hid
    · rcases ho with ⟨el', l', h1, _⟩ | ⟨α, el', e, enc, L, h1, _⟩ | ⟨o, h1, _⟩ <;> (rw [lget_ne _ _ hid] at h1; cases h1)
  have h2 : HR (freshEnv E s σ τ w 1) [(s.nx, .grow α er e enc L)] (s.nx + 1) σ τ1 w1 := by
    refine ⟨⟨hu.os, hu.tape, hu.output, hu.size, fun k hk _ => hu.block k hk, hu.drawn⟩, fun k hk => ⟨fun h => h, hk.2.1⟩, fun id el l hl => ?_, fun id α' el' e' enc' L' hl => ?_, fun i j k h1 h2 => (own i k h1).trans (own j k h2).symm, fun id o hl => ?_, fun id => ?_, fun id o hl => ?_⟩
    · by_cases hid : id = s.nx
      · subst hid; rw [lget_same] at hl; cases hl
      · rw [lget_ne _ _ hid] at hl; cases hl
    · by_cases hid : id = s.nx
      · subst hid
        rw [lget_same] at hl
        injection hl with hl; injection hl with q1 q2 q3 q4 q5; subst q1 q2 q3
        obtain rfl := eq_of_heq q4
        obtain rfl := eq_of_heq q5
        rw [hτ]
        exact ⟨fun g hg => .inr (hbk g hg), xs, hrow1, hlen, fun i x j d u hx hd hu => hrep i x j d u hx hd hu _⟩
      · rw [lget_ne _ _ hid] at hl; cases hl
    · by_cases hid : id = s.nx
      · subst hid; exact Nat.lt_succ_self _
      · rw [lget_ne _ _ hid] at hl; cases hl
    · by_cases hid : id = s.nx
      · subst hid; rw [hτ]; exact hsl
      · show ∃ p l c, (if id = s.nx then v else τ id) = _
        rw [if_neg hid]; exact hs.heap.slices id
    · by_cases hid : id = s.nx
      · subst hid; rw [lget_same] at hl; cases hl
      · rw [lget_ne _ _ hid] at hl; cases hl
  have hge : idsGe s.nx [(s.nx, .grow α er e enc L)] = true := by
    simp only [idsGe, loGe, Bool.and_true]
    exact Nat.ble_eq_true_of_le (Nat.le_refl _)
  obtain ⟨_, σ2, τ2, ⟨hlo, hhi⟩, h6, h7⟩ := merge_at hs h2 hge (Nat.le_succ _)
  have hid2 : lget ([(s.nx, LO.grow α er e enc L)] ++ s.H) i = some (.cells el X) := by
    rw [List.singleton_append, lget_ne _ _ (by omega)]; exact hid
  have hσi : σ2 i = σ i := (hlo i hinx).1
  have hown2 : ∀ id k, owned ([(s.nx, LO.grow α er e enc L)] ++ s.H) σ2 τ2 id k → v.ownBlock = some k ∨ ∃ id, owned s.H σ τ id k := fun id k ho => by
    by_cases hi : id = s.nx
    · subst hi
      rcases ho with ⟨_, _, q, _⟩ | ⟨_, _, _, _, _, q, q2⟩ | ⟨_, q, _⟩
      · rw [List.singleton_append, lget_same] at q; cases q
      · rw [(hhi s.nx (Nat.le_refl _)).2, hτ] at q2; exact .inl q2
      · rw [List.singleton_append, lget_same] at q; cases q
    · refine .inr ⟨id, ?_⟩
      rcases ho with ⟨el', l', q, q2⟩ | ⟨_, _, _, _, _, q, q2⟩ | ⟨_, q, q2⟩
      all_goals
        rw [List.singleton_append, lget_ne _ _ hi] at q
        have hlt := hs.heap.below id _ q
      · rw [(hlo id hlt).1] at q2; exact .inl ⟨_, _, q, q2⟩
      · rw [(hlo id hlt).2] at q2; exact .inr (.inl ⟨_, _, _, _, _, q, q2⟩)
      · rw [(hlo id hlt).1] at q2; exact .inr (.inr ⟨_, q, q2⟩)
  have hle : (baseCtx w' fun k => ((ctxOf E s.H s.nx σ τ w).ok k ∨ w.heap.size ≤ k) ∧ k < w'.heap.size ∧ v.ownBlock ≠ some k).Le (ctxOf E ([(s.nx, .grow α er e enc L)] ++ s.H) (s.nx + 1) σ2 τ2 w1) := by
    have hno : ∀ k, ((ctxOf E s.H s.nx σ τ w).ok k ∨ w.heap.size ≤ k) → ¬ ∃ id, owned s.H σ τ id k := fun k hk ⟨id, ho⟩ => by
      rcases hk with hk | hk
      · exact hk.2.2 id ho
      · have := owned_lt hs.heap ho; omega
    refine ⟨fun k o hk hc => ?_, fun k hk => ⟨?_, by show k < w1.heap.size; rw [← hsz1]; exact hk.2.1, fun id ho => (hown2 id k ho).elim hk.2.2 (hno k hk.1)⟩, fun _ _ _ h => h.elim, fun _ _ h => h.elim, fun _ _ _ h => h.elim⟩
    · have hne : k ≠ σ i := fun he => hno k hk.1 ⟨i, he ▸ hown⟩
      exact (hw1 k hne).symm.trans hc
    · rcases hk.1 with h | h
      · exact h.1
      · exact .inr (.inr (Nat.le_trans hs.heap.kept.size h))
  obtain ⟨hs2, hle2⟩ := store_state (w' := w') (l' := X') h6 hid2 (by rw [hσi]; exact hblk') (Nat.le_refl _) rfl rfl rfl hsz1 (fun k hk => hw1 k (by rw [hσi] at hk; exact hk)) ⟨hX2.1, fun j d u hd hu => (hX2.2 j d u hd hu).mono hle⟩
  exact ⟨_, _, σ2, τ2, v, h, rfl, hs2, (h7 (.grow s.nx) v (Nat.ble_eq_true_of_le (Nat.le_refl _)) (.grow ⟨Nat.lt_succ_self _, hτ.symm⟩)).mono hle2, fun h => by cases h⟩
end
end Go.Proofs.Ytfghccppoilfhaa.V
