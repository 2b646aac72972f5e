/-
  The places of a cache, in order: the program's, by value. Conditions: the cache stands right.
  The places of a cache, in order: the program's, by value. Conditions: the cache stands right.
  Places sorted; the places of a cache, in order, by value. Conditions: the cache stands right.
  What a cache is in memory behind a step of a tick; a tick, place by place. No condition.
  A tick goes by: the program's, by value. Conditions: the cache stands right, not too much is known.
-/
import Derived.Test.YtfepckbhnghpeaaK8
import Derived.Test.YtfepckbhnghpeaaK10
import Derived.Test.YtfepckbhnghpeaaK9
import Derived.Shelf.SlSortCmp.NoneTotal
namespace Go.Proofs.Ytfepckbhnghpeaa.V
open Go.RowKit Go.Shelf Go.Sort Go.Lib
attribute [local irreducible] Fn FnN OpVC ArC FnR ArL

/-! ### The comparison -/
def cmpP (a b : Int) : Int := match decide (a < b) with
  | true => -1
  | false => match decide (b < a) with
    | true => 1
    | false => 0
theorem cmpP_lt (a b : Int) : decide (cmpP a b < 0) = decide (a < b) := by
  unfold cmpP
  cases h1 : decide (a < b) with
  | true => rfl
  | false => cases h2 : decide (b < a) <;> rfl
theorem nanI_fn (x : Int) : Fn Try.prog 80 [intD x] fun d => d = boolD false := by
  refine fnOf [] Try.func80 rfl (by kernel_rfl) (Nat.le_of_ble_eq_true rfl) ?_
  conv => whnf
  rw [decide_eq_true (rfl : x = x)]
  rfl
theorem nanU_fn (x : Int) : Fn Try.prog 81 [u32D x] fun d => d = boolD false := by
  refine fnOf [] Try.func81 rfl (by kernel_rfl) (Nat.le_of_ble_eq_true rfl) ?_
  conv => whnf
  rw [decide_eq_true (rfl : x = x)]
  rfl
theorem cmpInt_fn (a b : Int) : Fn Try.prog 73 [intD a, intD b] fun d => d = intD (cmpP a b) := by
  refine fnOf [] Try.func73 rfl (by kernel_rfl) (Nat.le_of_ble_eq_true rfl) ?_
  unfold cmpP
  conv => whnf
  (refine CallVC.pure (nanI_fn a) rfl ?_; rintro _ rfl; conv => whnf)
  (refine CallVC.pure (nanI_fn b) rfl ?_; rintro _ rfl; conv => whnf)
  cases h1 : decide (a < b) with
  | true => conv => whnf
  | false =>
    conv => whnf
    cases h2 : decide (b < a) with
    | true => conv => whnf
    | false => conv => whnf
theorem cmpU_fn (a b : Int) : Fn Try.prog 74 [u32D a, u32D b] fun d => d = intD (cmpP a b) := by
  refine fnOf [] Try.func74 rfl (by kernel_rfl) (Nat.le_of_ble_eq_true rfl) ?_
  unfold cmpP
  conv => whnf
  (refine CallVC.pure (nanU_fn a) rfl ?_; rintro _ rfl; conv => whnf)
  (refine CallVC.pure (nanU_fn b) rfl ?_; rintro _ rfl; conv => whnf)
  cases h1 : decide (a < b) with
  | true => conv => whnf
  | false =>
    conv => whnf
    cases h2 : decide (b < a) with
    | true => conv => whnf
    | false => conv => whnf
def orP (a b : Int) : Int := match decide (a = 0) with
  | true => b
  | false => a
set_option maxHeartbeats 1000000 in
theorem cmpOr_fn (a b : Int) : Fn Try.prog 72 [.lit 1 [[intD a], [intD b]]] fun d => d = intD (orP a b) := by
  refine fnOf [] Try.func72 rfl (by kernel_rfl) (Nat.le_of_ble_eq_true rfl) ?_
  unfold orP
  conv => whnf
  refine ⟨Nat, fun k => ⟨[(8, intD k), (7, intD 2), (6, .lit 1 [[intD a], [intD b]]), (3, intD 0)], [], 0, ([], 0)⟩, fun k => k = 0 ∨ (k = 1 ∧ a = 0) ∨ (k = 2 ∧ a = 0 ∧ b = 0), fun k => 2 - k, ⟨0, [], [], ?_, .inl rfl⟩, ?_⟩
  · repeat' (first | exact trivial | exact .inl (DLe.refl _) | exact .inl (DLe.nil _ _) | (refine .inr ⟨rfl, _, ?_, rfl⟩; rfl) | exact rfl | exact .inl rfl | exact .inr ⟨rfl, rfl, rfl, rfl⟩ | exact Nat.zero_le _ | constructor)
  intro k hk
  rcases hk with rfl | ⟨rfl, ha⟩ | ⟨rfl, ha, hb⟩
  · conv => whnf
    refine ⟨rfl, ?_⟩
    conv => whnf
    cases h1 : decide (a = 0) with
    | true =>
      conv => whnf
      refine ⟨1, [], [], ?_, .inr (.inl ⟨rfl, of_decide_eq_true h1⟩), by decide⟩
      repeat' (first | exact trivial | exact .inl (DLe.refl _) | exact .inl (DLe.nil _ _) | (refine .inr ⟨rfl, _, ?_, rfl⟩; rfl) | exact rfl | exact .inl rfl | exact .inr ⟨rfl, rfl, rfl, rfl⟩ | exact Nat.zero_le _ | constructor)
    | false => conv => whnf
  · conv => whnf
    refine ⟨rfl, ?_⟩
    conv => whnf
    rw [decide_eq_true ha]
    cases h1 : decide (b = 0) with
    | true =>
      conv => whnf
      refine ⟨2, [], [], ?_, .inr (.inr ⟨rfl, ha, of_decide_eq_true h1⟩), by decide⟩
      repeat' (first | exact trivial | exact .inl (DLe.refl _) | exact .inl (DLe.nil _ _) | (refine .inr ⟨rfl, _, ?_, rfl⟩; rfl) | exact rfl | exact .inl rfl | exact .inr ⟨rfl, rfl, rfl, rfl⟩ | exact Nat.zero_le _ | constructor)
    | false => conv => whnf
  · conv => whnf
    rw [decide_eq_true ha, hb]
theorem orP_key (a b : Int × Int) (ha : keyR a) (hb : keyR b) : orP (cmpP a.1 b.1) (cmpP a.2 b.2) = cmpP (keyN a) (keyN b) := by
  have h := keyN_lt ha hb
  have h' := keyN_lt hb ha
  unfold orP cmpP
  rcases Int.lt_trichotomy a.1 b.1 with h1 | h1 | h1
  · rw [decide_eq_true h1, decide_eq_true (h.2 (.inl h1))]
    rfl
  · rw [decide_eq_false (show ¬ a.1 < b.1 by omega), decide_eq_false (show ¬ b.1 < a.1 by omega)]
    have e1 : decide (keyN a < keyN b) = decide (a.2 < b.2) := decide_eq_decide.2 (h.trans (by omega))
    have e2 : decide (keyN b < keyN a) = decide (b.2 < a.2) := decide_eq_decide.2 (h'.trans (by omega))
    rw [e1, e2]
    rfl
  · rw [decide_eq_false (show ¬ a.1 < b.1 by omega), decide_eq_true h1, decide_eq_false (show ¬ keyN a < keyN b by rw [h]; omega), decide_eq_true (h'.2 (.inl h1))]
    rfl
theorem order1_fn (a b : Int × Int) (ha : keyR a) (hb : keyR b) : Fn Try.prog 71 [.agg (plC a), .agg (plC b)] fun d => d = intD (cmpP (keyN a) (keyN b)) := by
  refine fnOf [(1, [0, 1, 2, 3, 5, 6, 7, 8, 4, 9, 10, 11, 12])] Try.func71 rfl (by kernel_rfl) (Nat.le_of_ble_eq_true rfl) ?_
  rw [← orP_key a b ha hb]
  have h1 := cmpInt_fn a.1 b.1
  have h2 := cmpU_fn a.2 b.2
  generalize cmpP a.1 b.1 = x at *
  generalize cmpP a.2 b.2 = y at *
  have h3 := cmpOr_fn x y
  conv => whnf
  (refine CallVC.pure (h1) rfl ?_; rintro _ rfl; conv => whnf)
  (refine CallVC.pure (h2) rfl ?_; rintro _ rfl; conv => whnf)
  refine ⟨by decide, ?_⟩
  conv => whnf
  (refine CallVC.pure (h3) rfl ?_; rintro _ rfl; conv => whnf)
end Go.Proofs.Ytfepckbhnghpeaa.V
namespace Go.Proofs.Ytfepckbhnghpeaa.V
open Go.RowKit Go.Shelf Go.Sort Go.Lib
attribute [local irreducible] Fn FnN OpVC ArC FnR ArL

section
variable {E : Env} {s : St} {σ : Nat → Nat} {τ : Nat → Value} {a : Act} {w : World}
theorem newRow_state (hs : SR E s σ τ a w) {w' : World} (hu : Under w.heap.size w w') {α : Type} {el e : Nat} {enc : α → List D} {L : List α} {v : Value} {xs : List Value} (hsl : ∃ p l c, v = .slice p l c) (hbk : ∀ g, v.ownBlock = some g → w.heap.size ≤ g) (hown : w'.ownsRow 0 el e v L.length xs)
    (hlen : ∀ (i : Nat) x, L[i]? = some x → (enc x).length = e) (hrep : ∀ (i : Nat) x (j : Nat) d u, L[i]? = some x → (enc x)[j]? = some d → xs[i * e + j]? = some u → ∀ C, Rep C d u) :
    ∃ σ2 τ2, SR E ⟨s.F, (s.nx, .grow α el e enc L) :: s.H, s.nx + 1, s.G⟩ σ2 τ2 a w' ∧ Rep (ctxOf E ((s.nx, .grow α el e enc L) :: s.H) (s.nx + 1) σ2 τ2 w') (.grow s.nx) v ∧ Below w.heap.size w w' := by
  let τ1 : Nat → Value := fun i => if i = s.nx then v else τ i
  have hτ : τ1 s.nx = v := if_pos rfl
  have own : ∀ id k, owned [(s.nx, .grow α el e enc L)] σ τ1 id k → id = s.nx := by
    intro id k ho
    by_cases hid : id = s.nx
    · exact hid
    · rcases ho with ⟨el', l', h1, _⟩ | ⟨α, el', e, enc, L, h1, _⟩ | ⟨o, h1, _⟩ <;> (rw [lget_ne _ _ hid] at h1; cases h1)
  have h2 : HR (freshEnv E s σ τ w 1) [(s.nx, .grow α el e enc L)] (s.nx + 1) σ τ1 w' := by
    refine ⟨⟨hu.os, hu.tape, hu.output, hu.size, fun k hk _ => hu.block k hk, hu.drawn⟩, fun k hk => ⟨fun h => h, hk.2.1⟩, fun id el l hl => ?_, fun id α' el' e' enc' L' hl => ?_, fun i j k h1 h2 => (own i k h1).trans (own j k h2).symm, fun id o hl => ?_, fun id => ?_, fun id o hl => ?_⟩
    · by_cases hid : id = s.nx
      · subst hid; rw [lget_same] at hl; cases hl
      · rw [lget_ne _ _ hid] at hl; cases hl
    · by_cases hid : id = s.nx
      · subst hid
        rw [lget_same] at hl
        injection hl with hl; injection hl with q1 q2 q3 q4 q5; subst q1 q2 q3
        obtain rfl := eq_of_heq q4
        obtain rfl := eq_of_heq q5
        rw [hτ]
        exact ⟨fun g hg => .inr (hbk g hg), xs, hown, hlen, fun i x j d u hx hd hu => hrep i x j d u hx hd hu _⟩
      · rw [lget_ne _ _ hid] at hl; cases hl
    · by_cases hid : id = s.nx
      · subst hid; exact Nat.lt_succ_self _
      · rw [lget_ne _ _ hid] at hl; cases hl
    · by_cases hid : id = s.nx
      · subst hid; rw [hτ]; exact hsl
      · show ∃ p l c, (if id = s.nx then v else τ id) = _
        rw [if_neg hid]; exact hs.heap.slices id
    · by_cases hid : id = s.nx
      · subst hid; rw [lget_same] at hl; cases hl
      · rw [lget_ne _ _ hid] at hl; cases hl
  have hge : idsGe s.nx [(s.nx, .grow α el e enc L)] = true := by
    simp only [idsGe, loGe, Bool.and_true]
    exact Nat.ble_eq_true_of_le (Nat.le_refl _)
  obtain ⟨hbel, σ2, τ2, h6, h7⟩ := merge_state hs h2 hge (Nat.le_succ _)
  exact ⟨σ2, τ2, h6, h7 _ _ (Nat.ble_eq_true_of_le (Nat.le_refl _)) (.grow ⟨Nat.lt_succ_self _, hτ.symm⟩), hbel⟩
end
theorem plCells_get : ∀ {L : List (Int × Int)} {i : Nat} {x : Int × Int} {j : Nat} {d : D} {u : Value}, L[i]? = some x → (plC x)[j]? = some d → (Go.Proofs.Ytfepckbhnghpeaa.plCells L)[i * 2 + j]? = some u → d = .v u
  | [], _, _, _, _, _, h, _, _ => by simp at h
  | y :: r, 0, x, j, d, u, h, hd, hu => by
    injection h with h; subst h
    unfold Go.Proofs.Ytfepckbhnghpeaa.plCells at hu
    rw [List.flatMap_cons, Nat.zero_mul, Nat.zero_add] at hu
    match j, hd with
    | 0, hd => injection hd with hd; injection hu with hu; subst hd hu; rfl
    | 1, hd => injection hd with hd; injection hu with hu; subst hd hu; rfl
    | j + 2, hd => simp [plC] at hd
  | y :: r, i + 1, x, j, d, u, h, hd, hu => by
    unfold Go.Proofs.Ytfepckbhnghpeaa.plCells at hu
    rw [List.flatMap_cons, Nat.succ_mul, show i * 2 + 2 + j = (i * 2 + j) + 1 + 1 by omega] at hu
    exact plCells_get (L := r) (by simpa using h) hd hu
theorem collect_vc {s : St} {gg : Bool} {i j mg clk : Nat} {S : Nat → Prop} {M : Ar} {el : TypeId} {es : List MapEntry} (hid : lget s.H i = some (arL S M)) (hbox : lget s.H j = some (.cells el [.v (.map (some mg))])) (hM : M mg = some (.ob (.map es.toArray clk)))
    (hes : es.length ≤ 1000000) (hborn : ∀ e ∈ es, e.born < clk) (hnd : (es.map (·.born)).Nodup) (hkey : ∀ e ∈ es, ∃ x y, e.key = .agg #[.int .i64 x, .int .u32 y]) {K : D → St → Prop}
    (h : ∀ (xs : List (Int × Int)) (vis : List MapEntry), vis.Perm es → vis.map (·.key) = xs.map Go.Proofs.Ytfepckbhnghpeaa.plV → K (.grow s.nx) ⟨s.F, (s.nx, .grow (Int × Int) 78 2 plC xs) :: s.H, s.nx + 1, s.G⟩) :
    CallVC Try.prog gg 77 [.fn 79 [] [.loc j 0]] s K := by
  refine ⟨⟨_, Try.func77, rfl⟩, fun E σ τ a w args' hs hr => ?_⟩
  obtain ⟨hal, har⟩ := hr
  obtain ⟨va, rfl⟩ : ∃ va, args' = [va] := by
    match args', hal with
    | [x], _ => exact ⟨x, rfl⟩
  have ha := har 0 _ va rfl rfl
  obtain ⟨_, c, hc, hcl, hcr⟩ := hs.heap.cells j _ _ hbox
  have hva : va = .func (.func 79) #[] #[.pointer (some ⟨σ j, 0, none⟩)] := by
    cases ha with
    | fn e1 e2 e3 e4 =>
      rename_i x y
      have : x = #[] := Array.eq_empty_of_size_eq_zero e1
      subst this
      obtain ⟨u, hu⟩ : ∃ u, y = #[u] := by
        have e2 : y.toList.length = 1 := by simpa using e2
        match hy : y.toList, e2 with
        | [u], _ => exact ⟨u, by apply Array.ext'; rw [hy]⟩
      subst hu
      have := e4 0 (.loc j 0) u rfl rfl
      cases this with
      | loc hl => rw [hl.2]
  subst hva
  have hm0 : w.cell? ⟨σ j, 0, none⟩ = some (.map (some mg)) := by
    have h1 : ∃ u, c[0]? = some u := ⟨_, Array.getElem?_eq_getElem (by rw [hcl]; exact Nat.zero_lt_one)⟩
    obtain ⟨u, hu⟩ := h1
    have := rep_v (hcr 0 _ u rfl hu)
    subst this
    simp [World.cell?, hc, hu]
  have hmb : w.heap[mg]? = some (.map es.toArray clk) := ar_at hs hid hM
  have hcall := calls_drawn ((Go.Proofs.Ytfepckbhnghpeaa.collectPl_in (σ j) mg clk w (Array.getElem?_eq_some_iff.1 hc).1 es hes hborn hnd hkey hm0 hmb).calls fun k d hd => by cases hd)
  refine hcall.mono fun e w' hh => ?_
  obtain ⟨⟨v, xs, vis, rfl, h1, h2, h3, h4⟩, h5⟩ := hh
  have hu : Under w.heap.size w w' := ⟨h4, h5 ⟨v, rfl⟩⟩
  have hsl : ∃ p l c, v = .slice p l c := by
    rcases h3.2 with ⟨h6, _⟩ | ⟨_, _, _, h6, _⟩
    · exact ⟨_, _, _, h6⟩
    · exact ⟨_, _, _, h6⟩
  have hbk : ∀ g, v.ownBlock = some g → w.heap.size ≤ g := fun g hg => by
    rcases h3.2 with ⟨h6, _⟩ | ⟨g', _, _, h6, h7, _⟩
    · rw [h6] at hg; cases hg
    · rw [h6] at hg; injection hg with hg; subst hg; exact h7
  have hown : w'.ownsRow 0 78 2 v xs.length (Go.Proofs.Ytfepckbhnghpeaa.plCells xs) := by
    refine ⟨h3.1, ?_⟩
    rcases h3.2 with h6 | ⟨g', c', cu, h6, _, h7⟩
    · exact .inl h6
    · exact .inr ⟨g', c', cu, h6, Nat.zero_le _, h7⟩
  obtain ⟨σ2, τ2, h6, h7, h8⟩ := newRow_state hs hu (α := Int × Int) (enc := plC) (L := xs) hsl hbk hown (fun _ _ _ => rfl) fun i x j d u hx hd hu C => by rw [plCells_get hx hd hu]; exact .v
  exact ⟨_, _, σ2, τ2, v, h xs vis h1 h2, rfl, h6, h7, fun _ => h8⟩
end Go.Proofs.Ytfepckbhnghpeaa.V
namespace Go.Proofs.Ytfepckbhnghpeaa.V
open Go.RowKit Go.Shelf Go.Sort Go.Lib

theorem SR.same_Hc {E : Env} {s : St} {σ : Nat → Nat} {τ : Nat → Value} {a : Act} {w : World} (hs : SR E s σ τ a w) {H' : List (Nat × LO)} (hH : ∀ j, lget H' j = lget s.H j) : SR E ⟨s.F, H', s.nx, s.G⟩ σ τ a w := by
  have e1 : ∀ id b, owned H' σ τ id b = owned s.H σ τ id b := fun id b => by unfold owned; rw [hH]
  have e2 : ctxOf E H' s.nx σ τ w = ctxOf E s.H s.nx σ τ w := by unfold ctxOf; simp only [e1]
  refine ⟨⟨hs.heap.kept, hs.heap.few, fun id el l h => ?_, fun id α el e enc L h => ?_, fun i j b h1 h2 => hs.heap.apart i j b (e1 _ _ ▸ h1) (e1 _ _ ▸ h2), fun id o h => hs.heap.below id o (hH id ▸ h), hs.heap.slices, fun id o h => ?_⟩, hs.defers, hs.size, fun i d hd => ?_, fun G d v hx => ?_, hs.room⟩
  · show _ ∧ ∃ c, _ ∧ _ ∧ ∀ (j : Nat) d u, _ → _ → Rep (ctxOf E H' s.nx σ τ w) d u
    rw [e2]; exact hs.heap.cells id el l (hH id ▸ h)
  · show _ ∧ ∃ xs, _ ∧ _ ∧ ∀ (i : Nat) x (j : Nat) d u, _ → _ → _ → Rep (ctxOf E H' s.nx σ τ w).still d u
    rw [e2]; exact hs.heap.grow id α el e enc L (hH id ▸ h)
  · rw [e2]; exact hs.heap.obj id o (hH id ▸ h)
  · show Rep (ctxOf E H' s.nx σ τ w) _ _
    rw [e2]; exact hs.slots i d hd
  · obtain ⟨h1, h2, h3⟩ := hs.ghost G d v hx
    refine ⟨h1, h2, ?_⟩
    show Rep ((ctxOf E H' s.nx σ τ w).only G) d v
    rw [e2]; exact h3

theorem agg_vc {C : Ctx} (l : List Value) : Rep C (.agg (l.map .v)) (.agg l.toArray) := by
  refine .agg (by simp) fun j d u hd hu => ?_
  rw [List.getElem?_map] at hd
  have hu : l[j]? = some u := by simpa using hu
  rw [hu] at hd
  simp only [Option.map_some, Option.some.injEq] at hd
  subst hd
  exact .v
theorem cmp_anyc {g : FuncId} {a b : List Value} {r : Int} (h : Fn Try.prog g [.agg (a.map .v), .agg (b.map .v)] fun d => d = intD r) (W : World) :
    Calls Try.prog g #[.agg a.toArray, .agg b.toArray] W fun e w' => e = .returned (.int .i64 r) ∧ ∃ q os', w' = grow (W.drewN q) os' := by
  refine (h.2 W (fun _ => False) [.agg a.toArray, .agg b.toArray] (fun _ h => h.elim) (reps_cons (agg_vc a) (reps_cons (agg_vc b) reps_nil))).mono fun e w' hh => ?_
  obtain ⟨d, v, rfl, rfl, hu, hr⟩ := hh
  rw [rep_v hr]
  exact ⟨rfl, under_grow hu⟩

theorem swo_keyP {β : Type} (key : β → Int) : SWO (ltOf fun x y => cmpP (key x) (key y)) where
  irrefl x := by show decide (cmpP _ _ < 0) = false; rw [cmpP_lt]; simp
  trans x y z h1 h2 := by
    have h1 : decide (cmpP _ _ < 0) = true := h1
    have h2 : decide (cmpP _ _ < 0) = true := h2
    show decide (cmpP _ _ < 0) = true
    rw [cmpP_lt] at *
    exact decide_eq_true (Int.lt_trans (of_decide_eq_true h1) (of_decide_eq_true h2))
  ntrans x y z h1 h2 := by
    have h1 : decide (cmpP _ _ < 0) = false := h1
    have h2 : decide (cmpP _ _ < 0) = false := h2
    show decide (cmpP _ _ < 0) = false
    rw [cmpP_lt] at *
    exact decide_eq_false (by have h1 := of_decide_eq_false h1; have h2 := of_decide_eq_false h2; omega)


attribute [local irreducible] Fn FnN OpVC ArC FnR ArL
abbrev KeyS := {k : Int × Int // keyR k}
instance : Inhabited KeyS := ⟨⟨(0, 0), by unfold keyR; decide⟩⟩
def plVs (x : Int × Int) : List Value := [.int .i64 x.1, .int .u32 x.2]
theorem sortP_vc {s : St} {id : Nat} {L S : List (Int × Int)} {K : D → St → Prop} (hid : lget s.H id = some (.grow (Int × Int) 78 2 plC L)) (hL : ∀ x, x ∈ L → keyR x) (hsz : L.length ≤ 1000000)
    (hS : S.Pairwise fun x y => keyN x < keyN y) (hp : S.Perm L) (h : K (.tup []) ⟨s.F, (id, .grow (Int × Int) 78 2 plC S) :: s.H, s.nx, s.G⟩) :
    CallVC Try.prog false 78 [.grow id, .fn 71 [] []] s K := by
  have hb : hasBody Try.prog 78 := ⟨_, Try.func78, rfl⟩
  have hen : ∀ args w, (callFunc 71 args).run Try.prog w = .ok (.enter 71 args) w := enters_of Try.func71 (by kernel_rfl) rfl
  obtain ⟨M, rfl⟩ := sub_list L hL
  rw [List.length_map] at hsz
  by_cases hpos : 0 < M.length
  · refine sort_vc sortPL (β := KeyS) (val := Subtype.val) (fun x : KeyS => plVs x.val) (fun _ => rfl) (fun _ => rfl) (by decide) (fun x v hv => by simp [plVs] at hv; rcases hv with rfl | rfl <;> rfl) Try.isAgg78 Try.sizeOf78 (fun x y : KeyS => cmpP (keyN x.val) (keyN y.val)) (swo_keyP fun x : KeyS => keyN x.val) _ hen (fun x y W => cmp_anyc (order1_fn x.val y.val x.2 y.2) W) hb hid hpos (by omega) fun M' hm hs => ?_
    rw [show M'.map Subtype.val = S from sorted_one (key := keyN) hS ((hm.map _).trans hp.symm) fun i j x y hij hx hy => by
      obtain ⟨x', hx', rfl⟩ := map_get hx
      obtain ⟨y', hy', rfl⟩ := map_get hy
      have := hs i j x' y' hij hx' hy'
      have h2 := cmpP_lt (keyN y'.val) (keyN x'.val)
      rw [decide_eq_false (by omega)] at h2
      have := of_decide_eq_false h2.symm
      omega]
    exact h
  · have hM : M = [] := List.eq_nil_of_length_eq_zero (by omega)
    subst hM
    obtain rfl := hp.eq_nil
    refine ⟨hb, fun E σ τ a w args' hs hr => ?_⟩
    obtain ⟨hal, har⟩ := hr
    obtain ⟨va, vb, rfl⟩ : ∃ va vb, args' = [va, vb] := by
      match args', hal with
      | [x, y], _ => exact ⟨x, y, rfl⟩
    have hav : va = τ id := by
      have := har 0 _ va rfl rfl
      cases this with
      | grow hg => exact hg.2
    obtain ⟨_, xs, ⟨_, hown⟩, _⟩ := hs.heap.grow id _ _ _ _ _ hid
    obtain ⟨p, c, hv⟩ : ∃ p c, va = .slice p 0 c := by
      rcases hown with ⟨h1, _⟩ | ⟨g, cap, cur, h1, _⟩
      · exact ⟨_, _, hav.trans h1⟩
      · exact ⟨_, _, hav.trans h1⟩
    subst hv
    refine (AnyF.slices_SortFunc_none sortPL p c vb w).mono fun e w' hh => ?_
    obtain ⟨rfl, rfl⟩ := hh
    refine ⟨_, _, σ, τ, _, h, rfl, ?_, .tup rfl (fun j d u hd hu => by cases hd), fun hg => by cases hg⟩
    refine hs.same_Hc fun j => ?_
    by_cases hj : j = id
    · subst hj; rw [lget_same, hid]; rfl
    · rw [lget_ne _ _ hj]
abbrev plsR (L : List (Int × Int)) : D := .rows (Int × Int) 2 plC L
theorem CStand.keysR {d : CDat} {T : List Pl} (h : CStand d T) : ∀ k ∈ T.map Pl.key, keyR k := fun k hk => by
  obtain ⟨x, hx, rfl⟩ := List.mem_map.1 hk
  exact h.sort.1 x hx
def unplV : Value → Int × Int
  | .agg ⟨[.int _ a, .int _ b]⟩ => (a, b)
  | _ => (0, 0)
theorem keys_perm {d : CDat} {T : List Pl} (h : CStand d T) {xs : List (Int × Int)} {vis : List MapEntry} (h1 : vis.Perm (d.L.map entP)) (h2 : vis.map (·.key) = xs.map Go.Proofs.Ytfepckbhnghpeaa.plV) : xs.Perm (T.map Pl.key) := by
  have h3 := (h1.map (·.key)).map unplV
  rw [h2, List.map_map, List.map_map, List.map_map] at h3
  have e1 : xs.map (unplV ∘ Go.Proofs.Ytfepckbhnghpeaa.plV) = xs := by
    conv => rhs; rw [← List.map_id xs]
    exact List.map_congr_left fun x _ => rfl
  have e2 : d.L.map (unplV ∘ (fun x : MapEntry => x.key) ∘ entP) = (d.L.map Pr.pl).map Pl.key := by
    rw [List.map_map]
    exact List.map_congr_left fun x _ => rfl
  rw [e1] at h3
  exact (h3.trans (by rw [← e2]; exact .refl _)).trans (h.perm.map Pl.key)
set_option maxHeartbeats 4000000 in
theorem order_ar (d : CDat) (T : List Pl) (h : CStand d T) (hT : T.length ≤ 100000) : ArC Try.prog 59 [ptrD d.cg] (cacheM d) fun r M => M = cacheM d ∧ r = plsR (T.map Pl.key) := by
  refine arOf [] Try.func59 rfl (by kernel_rfl) (Nat.le_of_ble_eq_true rfl) fun S => ?_
  have hh := cache_hdr (d := d)
  have hm := cache_map h.ok
  have hll := h.len
  have hbn : ∀ e ∈ d.L.map entP, e.born < d.clk := fun e he => by
    obtain ⟨p, hp, rfl⟩ := List.mem_map.1 he
    exact h.ok.bclk p hp
  have hnd : ((d.L.map entP).map (·.born)).Nodup := by
    rw [List.map_map]
    exact h.ok.born
  have hky : ∀ e ∈ d.L.map entP, ∃ x y, e.key = .agg #[.int .i64 x, .int .u32 y] := fun e he => by
    obtain ⟨p, hp, rfl⟩ := List.mem_map.1 he
    exact ⟨_, _, rfl⟩
  have hlen : (d.L.map entP).length ≤ 1000000 := by rw [List.length_map]; omega
  have hS : (T.map Pl.key).Pairwise fun x y => keyN x < keyN y := List.pairwise_map.2 h.sort.2
  conv => whnf
  (refine pv_nil rfl ?_; (conv => whnf); refine pv_field ttH rfl rfl rfl ?_; conv => whnf)
  (refine pv_loadA (i := 0) ttH rfl rfl rfl (hh) rfl ?_; conv => whnf)
  refine goIn [] Try.func70 rfl (by kernel_rfl) (Nat.le_of_ble_eq_true rfl) ?_
  conv => whnf
  refine goIn [] Try.func69 rfl (by kernel_rfl) (Nat.le_of_ble_eq_true rfl) ?_
  conv => whnf
  refine collect_vc (i := 0) (j := 1) (es := d.L.map entP) (clk := d.clk) rfl rfl hm hlen hbn hnd hky fun xs vis hv1 hv2 => ?_
  have hp := keys_perm h hv1 hv2
  have hxl : xs.length ≤ 1000000 := by have := hp.length_eq; rw [List.length_map] at this; omega
  have hxr : ∀ x ∈ xs, keyR x := fun x hx => h.keysR x (hp.mem_iff.1 hx)
  conv => whnf
  refine sortP_vc (id := 2) rfl hxr hxl hS hp.symm ?_
  conv => whnf
  exact .frz 2 _ _ _ _ _ rfl (.done _ _ rfl rfl ⟨rfl, rfl⟩)
end Go.Proofs.Ytfepckbhnghpeaa.V
namespace Go.Proofs.Ytfepckbhnghpeaa.V
open Go.RowKit

theorem upd_updc (M : Ar) (g : Nat) (x y : Option It) : (M.upd g x).upd g y = M.upd g y := by
  funext k
  simp only [upd_if]
  by_cases h : k = g <;> simp [h]
section
variable {P : Program} {s : St} {K : D → St → Prop}
theorem op_drop {gg : Bool} {o : Oper} {i : Nat} {S : Nat → Prop} {M M' : Ar} (hid : lget s.H i = some (arL S M)) (hsub : ∀ k x, M' k = some x → M k = some x) (h : ∀ S', OpVC P gg o ⟨s.F, (i, arL S' M') :: s.H, s.nx, s.G⟩ K) : OpVC P gg o s K := by
  intro E σ τ a w hs next Q hn
  exact h _ E σ τ a w (drop_state hs hid hsub).1 next Q hn
end
def CDat.at_ (d : CDat) (n : Int) : CDat := { d with now := n }
theorem at_pr {d : CDat} (h : COk d) (n : Int) : COk (d.at_ n) ∧ (cacheM d).upd d.cg (some (.cells 108 (hdrC (d.at_ n)))) = cacheM (d.at_ n) := by
  refine ⟨⟨h.nodup, h.rows, h.keys, h.born, h.bclk⟩, ?_⟩
  funext k
  show _ = lget (items (d.at_ n)) k
  rw [upd_if]
  show _ = lget ((d.cg, _) :: (d.mg, _) :: d.L.flatMap prItems) k
  have : cacheM d k = lget ((d.cg, It.cells 108 (hdrC d)) :: (d.mg, .ob (mapO d)) :: d.L.flatMap prItems) k := rfl
  rw [this]
  simp only [lget_cons]
  by_cases e : k = d.cg
  · simp [e]
  · simp [e]; rfl
theorem at_stand {d : CDat} {T : List Pl} (h : CStand d T) (n : Int) : CStand (d.at_ n) T := ⟨(at_pr h.ok n).1, h.perm, h.sort⟩
theorem put_same {d : CDat} (h : COk d) {A B : List Pr} {p q : Pr} (hL : d.L = A ++ p :: B) (hg : q.g = p.g) (hr : q.row = p.row) (hre : q.rest = p.rest) (hw : q.pl.ws = p.pl.ws) (hk : q.pl.key = p.pl.key) (hb : q.born = p.born) :
    COk (d.put A B q) ∧ (cacheM d).upd p.g (some (.cells 117 (prC q))) = cacheM (d.put A B q) := by
  have hmem : p ∈ d.L := by rw [hL]; simp
  obtain ⟨n0, n1, n2, n3⟩ := cache_ne h hmem
  have he : entP q = entP p := by
    unfold entP
    have : (q.pl.nic, q.pl.next) = (p.pl.nic, p.pl.next) := hk
    injection this with e1 e2
    rw [hg, hb, e1, e2]
  have hmap := put_map hL he
  have hwq : waitsL (d.put A B q).L = waitsL d.L := by
    have h2 : waitsL d.L = waitsT ((A ++ p :: B).map Pr.pl) := by unfold waitsL; rw [hL]
    have h3 := waitsT_set (A := A.map Pr.pl) (B := B.map Pr.pl) (x := p.pl) (y := q.pl)
    have h4 : waitsL (d.put A B q).L = waitsT ((A ++ q :: B).map Pr.pl) := rfl
    rw [h4, h2, List.map_append, List.map_cons, List.map_append, List.map_cons]
    rw [hw] at h3
    omega
  have hhd : hdrC (d.put A B q) = hdrC d := by
    unfold hdrC
    rw [hwq]
    rfl
  have hop := cache_open h hL
  have hnd := (nodup_perm (items_open hL)).1 h.nodup
  have hrow : prRow q = prRow p := by unfold prRow; rw [hr, hre, hw]
  have hnew : (items (d.put A B q)).Perm (openI (d.put A B q) (prItems q) ((A ++ B).flatMap prItems)) := items_open rfl
  have hkeys : (openI (d.put A B q) (prItems q) ((A ++ B).flatMap prItems)).map (·.1) = (openI d (prItems p) ((A ++ B).flatMap prItems)).map (·.1) := by
    unfold openI prItems
    rw [hrow, hg]
    rfl
  have hpok : PrOk q := by
    obtain ⟨a1, a2, a3⟩ := h.rows p hmem
    exact ⟨by rw [hr, hw]; exact a1, by rw [hr, hre, hw]; exact a2, by rw [hk]; exact a3⟩
  refine ⟨⟨(nodup_perm hnew).2 (by rw [hkeys]; exact hnd), fun x hx => ?_, put_keys h hL hk, (put_born h hL hb).1, (put_born h hL hb).2⟩, cache_is hnew (by rw [hkeys]; exact hnd) fun k => ?_⟩
  · rcases List.mem_append.1 hx with hx | hx
    · exact h.rows x (by rw [hL]; simp [hx])
    · rcases List.mem_cons.1 hx with rfl | hx
      · exact hpok
      · exact h.rows x (by rw [hL]; simp [hx])
  · rw [upd_if, hop]
    unfold openI prItems
    rw [hrow, hhd, hmap, hg]
    simp only [List.cons_append, lget_cons]
    show (if k = p.g then _ else if k = d.cg then _ else if k = d.mg then _ else _) = if k = d.cg then _ else if k = d.mg then _ else _
    by_cases e1 : k = d.cg
    · simp [e1, n1]
    by_cases e2 : k = d.mg
    · simp [e2, n2, Ne.symm n0]
    by_cases e3 : k = p.g
    · simp [e3, Ne.symm n1, Ne.symm n2]
    · simp [e1, e2, e3]
def CDat.del (d : CDat) (A B : List Pr) : CDat := { d with L := A ++ B }
theorem del_pr {d : CDat} (h : COk d) {A B : List Pr} {p : Pr} (hL : d.L = A ++ p :: B) :
    COk (d.del A B) ∧ ∀ k x, cacheM (d.del A B) k = some x → (k = d.cg ∧ x = .cells 108 (hdrC (d.del A B))) ∨ (k ≠ d.cg ∧ k = d.mg ∧ x = .ob (mapO (d.del A B))) ∨ (k ≠ d.cg ∧ k ≠ d.mg ∧ cacheM d k = some x) := by
  have hsl : (A ++ B).Sublist d.L := by rw [hL]; exact List.Sublist.append_left (List.sublist_cons_self _ _) _
  have hop := cache_open h hL
  have hnd := (nodup_perm (items_open hL)).1 h.nodup
  have hit : items (d.del A B) = (d.cg, .cells 108 (hdrC (d.del A B))) :: (d.mg, .ob (mapO (d.del A B))) :: (A ++ B).flatMap prItems := rfl
  unfold openI at hop hnd
  generalize (A ++ B).flatMap prItems = R at *
  have hnd2 : ((items (d.del A B)).map (·.1)).Nodup := by
    rw [hit]
    simp only [List.map_cons, List.map_append, List.nodup_cons, List.mem_cons, List.mem_append, not_or] at hnd ⊢
    exact ⟨⟨hnd.1.1, hnd.1.2.2⟩, hnd.2.1.2, (List.nodup_append.1 hnd.2.2).2.1⟩
  refine ⟨⟨hnd2, fun x hx => h.rows x (hsl.subset hx), h.keys.sublist (hsl.map _), h.born.sublist (hsl.map _), fun x hx => h.bclk x (hsl.subset hx)⟩, fun k x hx => ?_⟩
  have hx : lget (items (d.del A B)) k = some x := hx
  rw [hit] at hx
  simp only [lget_cons] at hx
  by_cases e1 : k = d.cg
  · rw [if_pos e1] at hx
    injection hx with hx
    exact .inl ⟨e1, hx.symm⟩
  rw [if_neg e1] at hx
  by_cases e2 : k = d.mg
  · rw [if_pos e2] at hx
    injection hx with hx
    exact .inr (.inl ⟨e1, e2, hx.symm⟩)
  rw [if_neg e2] at hx
  refine .inr (.inr ⟨e1, e2, ?_⟩)
  rw [hop]
  exact lget_mem hnd (List.mem_cons_of_mem _ (List.mem_cons_of_mem _ (List.mem_append_right _ (lget_in hx))))
theorem map_del {d : CDat} {A B : List Pr} {p : Pr} (hL : d.L = A ++ p :: B) : mapO (d.del A B) = .map ((d.L.map entP).eraseIdx A.length).toArray d.clk := by
  unfold mapO
  show Obj.map ((A ++ B).map entP).toArray d.clk = _
  rw [hL, List.map_append, List.map_append, List.map_cons]
  have e : (A.map entP ++ entP p :: B.map entP).eraseIdx A.length = A.map entP ++ B.map entP := by
    rw [List.eraseIdx_append_of_length_le (by simp)]
    simp
  rw [e]
theorem waitsL_del {d : CDat} {A B : List Pr} {p : Pr} (hL : d.L = A ++ p :: B) : waitsL (d.del A B).L + p.pl.ws.length = waitsL d.L := by
  unfold waitsL
  show waitsT ((A ++ B).map Pr.pl) + _ = _
  rw [hL, List.map_append, List.map_append, List.map_cons, waitsT_append, waitsT_append, waitsT]
  omega

/-! ### A tick, place by place -/
def stageT (c : Nat → Int) (now : Int) (T : List Pl) (i : Nat) : List Pl := tickT c now (T.take i) ++ T.drop i
theorem stage_end (c : Nat → Int) (now : Int) (T : List Pl) : stageT c now T T.length = tickT c now T := by
  unfold stageT
  rw [List.take_length, List.drop_length, List.append_nil]
theorem stage_at {c : Nat → Int} {now : Int} {T : List Pl} {i : Nat} {x : Pl} (h : T[i]? = some x) : stageT c now T i = tickT c now (T.take i) ++ x :: T.drop (i + 1) ∧ stageT c now T (i + 1) = tickT c now (T.take i) ++ ((tickX c now x).toList ++ T.drop (i + 1)) := by
  obtain ⟨hl, rfl⟩ := List.getElem?_eq_some_iff.1 h
  unfold stageT tickT
  refine ⟨by rw [List.drop_eq_getElem_cons hl], ?_⟩
  rw [List.take_add_one, h, Option.toList_some, List.filterMap_append, List.append_assoc]
  congr 2
theorem asks_snoc {c : Nat → Int} {now : Int} {T : List Pl} {i : Nat} {x : Pl} (h : T[i]? = some x) : asksT c now (T.take (i + 1)) = asksT c now (T.take i) ++ match askX c now x with
    | true => [x.key]
    | false => [] := by
  unfold asksT
  rw [List.take_add_one, h, Option.toList_some, List.filter_append, List.map_append]
  congr 1
  cases hq : askX c now x <;> simp [hq]
theorem lostT_append (c : Nat → Int) (now : Int) : ∀ A B : List Pl, lostT c now (A ++ B) = lostT c now A + lostT c now B
  | [], B => by simp [lostT]
  | x :: r, B => by rw [List.cons_append, lostT, lostT, lostT_append c now r B]; omega
theorem lost_snoc {c : Nat → Int} {now : Int} {T : List Pl} {i : Nat} {x : Pl} (h : T[i]? = some x) : lostT c now (T.take (i + 1)) = lostT c now (T.take i) + lostX c now x := by
  rw [List.take_add_one, h, Option.toList_some, lostT_append]
  simp [lostT]
theorem lostT_le (c : Nat → Int) (now : Int) : ∀ T : List Pl, lostT c now T ≤ waitsT T
  | [] => Nat.le_refl _
  | x :: r => by
    rw [lostT, waitsT]
    have := lostT_le c now r
    have : lostX c now x ≤ x.ws.length := by unfold lostX; cases tickX c now x <;> simp
    omega
theorem waits_take (T : List Pl) (i : Nat) : waitsT (T.take i) ≤ waitsT T := by
  conv => rhs; rw [← List.take_append_drop i T]
  rw [waitsT_append]; omega
theorem del_stand {d : CDat} {P R : List Pl} {A B : List Pr} {p : Pr} (hL : d.L = A ++ p :: B) (h : CStand d (P ++ p.pl :: R)) (hok : COk (d.del A B)) : CStand (d.del A B) (P ++ R) := by
  refine ⟨hok, ?_, ?_⟩
  · show ((A ++ B).map Pr.pl).Perm _
    have h1 := h.perm
    rw [hL, List.map_append, List.map_cons] at h1
    rw [List.map_append]
    have h2 := (List.perm_middle.symm.trans h1).trans List.perm_middle
    exact (List.perm_cons p.pl).1 h2
  · have hs : (P ++ R).Sublist (P ++ p.pl :: R) := List.Sublist.append_left (List.sublist_cons_self _ _) _
    exact ⟨fun x hx => h.sort.1 x (hs.subset hx), h.sort.2.sublist hs⟩
end Go.Proofs.Ytfepckbhnghpeaa.V
namespace Go.Proofs.Ytfepckbhnghpeaa.V
open Go.RowKit
attribute [local irreducible] Fn FnN OpVC ArC FnR ArL

def TOk (T : List Pl) : Prop := ∀ x ∈ T, (x.known = false → x.ws ≠ [] ∧ 0 ≤ x.tries) ∧ (x.known = true → x.ws = []) ∧ (0 ≤ x.tries)
def cfgOk (c : Nat → Int) : Prop := ∀ i, 23 ≤ i → i < 40 → -9223372036854775808 ≤ c i ∧ c i ≤ 9223372036854775807
theorem waits_tick (c : Nat → Int) (now : Int) : ∀ T : List Pl, waitsT (tickT c now T) ≤ waitsT T
  | [] => Nat.le_refl _
  | x :: r => by
    have ih := waits_tick c now r
    unfold tickT at ih ⊢
    rw [List.filterMap_cons]
    cases hq : tickX c now x with
    | none => simp only [waitsT]; omega
    | some y =>
      have : y.ws = x.ws := by
        unfold tickX at hq
        split at hq
        · injection hq with hq; rw [← hq]
        · split at hq
          · injection hq with hq; rw [← hq]
          · cases hq
      simp only [waitsT, this]; omega
set_option maxHeartbeats 16000000 in
theorem tick_ar (d : CDat) (T : List Pl) (h : CStand d T) (hok : TOk T) (hc : cfgOk d.c) (hT : T.length ≤ 100000) (hw : waitsT T ≤ 1000000) (hn : 0 ≤ d.now ∧ d.now ≤ 1999999999) :
    ArC Try.prog 35 [ptrD d.cg] (cacheM d) fun r M => r = .tup [plsR (asksT d.c (d.now + 1) T), intD (lostT d.c (d.now + 1) T)] ∧ ∃ d', M = cacheM d' ∧ d'.cg = d.cg ∧ d'.c = d.c ∧ d'.now = d.now + 1 ∧ CStand d' (tickT d.c (d.now + 1) T) := by
  refine arOf [] Try.func35 rfl (by kernel_rfl) (Nat.le_of_ble_eq_true rfl) fun S => ?_
  have hh := cache_hdr (d := d)
  obtain ⟨hok1, hM1⟩ := at_pr h.ok (d.now + 1)
  have h1 := at_stand h (d.now + 1)
  have en : IntKind.i64.wrap (d.now + 1) = d.now + 1 := IntWalk.i64_in _ (by omega)
  have hord := order_ar (d.at_ (d.now + 1)) T h1 hT
  conv => whnf
  (refine pv_isNil (b := false) ttH rfl rfl rfl (.inl ⟨rfl, rfl⟩) ?_; conv => whnf)
  (refine pv_nil rfl ?_; (conv => whnf); refine pv_field ttH rfl rfl rfl ?_; conv => whnf)
  (refine pv_loadA (i := 0) ttH rfl rfl rfl (hh) rfl ?_; conv => whnf)
  (refine pv_nil rfl ?_; (conv => whnf); refine pv_field ttH rfl rfl rfl ?_; conv => whnf)
  rw [en]
  refine op_storeA (i := 0) (l' := hdrC (d.at_ (d.now + 1))) ttH rfl rfl rfl rfl hh rfl rfl rfl rfl rfl ?_
  rw [hM1]
  conv => whnf
  refine CallVC.ar (i := 0) hord rfl rfl ?_
  rintro _ _ S1 ⟨rfl, rfl⟩
  obtain ⟨d0, hd0⟩ : ∃ d0, d0 = d.at_ (d.now + 1) := ⟨_, rfl⟩
  have hcg0 : d0.cg = d.cg := by rw [hd0]; rfl
  have hc0 : d0.c = d.c := by rw [hd0]; rfl
  have hn0 : d0.now = d.now + 1 := by rw [hd0]; rfl
  rw [← hd0] at h1 ⊢
  conv => whnf
  refine ⟨Nat × CDat × (Nat → Prop), fun x => ⟨[(23, intD x.1), (22, intD (T.map Pl.key).length), (21, plsR (T.map Pl.key)), (5, intD (lostT d.c (d.now + 1) (T.take x.1))), (4, .grow 1), (0, ptrD d.cg)], [(0, arL x.2.2 (cacheM x.2.1)), (1, .grow (Int × Int) 78 2 plC (asksT d.c (d.now + 1) (T.take x.1)))], 2, ([], 0)⟩,
    fun x => x.1 ≤ T.length ∧ x.2.1.cg = d.cg ∧ x.2.1.c = d.c ∧ x.2.1.now = d.now + 1 ∧ CStand x.2.1 (stageT d.c (d.now + 1) T x.1), fun x => T.length - x.1, ⟨(0, d0, S1), [], [1], ?_, ⟨Nat.zero_le _, hcg0, hc0, hn0, h1⟩⟩, ?_⟩
  · repeat' (first | exact trivial | exact .inl (DLe.refl _) | exact .inl (DLe.nil _ _) | (refine .inr ⟨rfl, _, ?_, rfl⟩; rfl) | exact rfl | exact .inl rfl | exact .inr ⟨rfl, rfl, rfl, rfl⟩ | exact Nat.zero_le _ | constructor)
  clear h1 hd0 hcg0 hc0 hn0 d0 hord hM1 hok1 hh
  rintro ⟨k, e, S2⟩ ⟨hk, hcg, hcc, hnw, hst⟩
  dsimp only at hk hcg hcc hnw hst ⊢
  have hml : (T.map Pl.key).length = T.length := List.length_map _
  rw [hml]
  have e0 : IntKind.i64.wrap ((k : Int) + 1) = ((k + 1 : Nat) : Int) := by rw [IntWalk.i64_in _ (by omega)]; omega
  rw [← hcg]
  conv => whnf
  refine Fork.intro (fun q => ?_) (fun q => ?_)
  · have q' : k < T.length := by have := of_decide_eq_true q; omega
    obtain ⟨x, hx⟩ : ∃ x, T[k]? = some x := ⟨_, List.getElem?_eq_getElem q'⟩
    have hxm : x ∈ T := List.mem_of_getElem? hx
    obtain ⟨s1, s2⟩ := stage_at (c := d.c) (now := d.now + 1) hx
    have hstx : x ∈ stageT d.c (d.now + 1) T k := by rw [s1]; simp
    obtain ⟨p, hp, hpx⟩ : ∃ p ∈ e.L, p.pl = x := by
      obtain ⟨p, hp, hpx⟩ := List.mem_map.1 (hst.perm.mem_iff.2 hstx)
      exact ⟨p, hp, hpx⟩
    obtain ⟨A, B, hL⟩ := mem_split' hp
    have hpr := cache_pr hst.ok hp
    have hhd := cache_hdr (d := e)
    have hm := cache_map hst.ok
    have hLk := ent_keys hst.ok
    obtain ⟨a1, a2, a3⟩ := hst.ok.rows p hp
    obtain ⟨lk, hlk⟩ := place_key p.pl.key a3
    conv => whnf
    refine ⟨rfl, ⟨Int.natCast_nonneg _, Int.ofNat_lt.2 (by rw [hml]; exact q')⟩, fun y hy => ?_⟩
    obtain rfl : x.key = y := by
      rw [Int.toNat_natCast, List.getElem?_map, hx] at hy
      exact Option.some.inj hy
    rw [← hpx]
    conv => whnf
    (refine pv_nil rfl ?_; (conv => whnf); refine pv_field ttH rfl rfl rfl ?_; conv => whnf)
    (refine pv_loadA (i := 0) ttH rfl rfl rfl (hhd) rfl ?_; conv => whnf)
    refine op_lookupA (i := 0) (z := .pointer none) (L := e.L.map entP) (vs := [.int .i64 p.pl.key.1, .int .u32 p.pl.key.2]) rfl Try.underlying106 (by kernel_rfl) place_law rfl rfl rfl hm hlk hLk (fun hno => ?_) (fun en he hek => ?_)
    · exact absurd rfl (hno (entP p) (List.mem_map_of_mem hp))
    obtain ⟨j, hj⟩ := List.getElem?_of_mem he
    obtain ⟨_, rfl⟩ := keys_at hst.ok hL hj hek
    conv => whnf
    (refine pv_nil rfl ?_; (conv => whnf); refine pv_field ttH rfl rfl rfl ?_; conv => whnf)
    (refine pv_loadA (i := 0) ttH rfl rfl rfl (hpr) rfl ?_; conv => whnf)
    (refine pv_nil rfl ?_; (conv => whnf); refine pv_field ttH rfl rfl rfl ?_; conv => whnf)
    (refine pv_loadA (i := 0) ttH rfl rfl rfl (hhd) rfl ?_; conv => whnf)
    cases hdue : decide (e.now < p.pl.due) with
    | true =>
      have hdq : decide (x.due > d.now + 1) = true := by rw [← hpx, ← hnw]; exact hdue
      have hX : tickX d.c (d.now + 1) x = some x := by unfold tickX; rw [hdq]
      have hA : askX d.c (d.now + 1) x = false := by unfold askX; rw [hdq]; rfl
      have hs2 : stageT d.c (d.now + 1) T (k + 1) = stageT d.c (d.now + 1) T k := by rw [s1, s2, hX]; rfl
      have hasks : asksT d.c (d.now + 1) (T.take (k + 1)) = asksT d.c (d.now + 1) (T.take k) := by rw [asks_snoc hx, hA]; exact List.append_nil _
      have hlost : lostT d.c (d.now + 1) (T.take (k + 1)) = lostT d.c (d.now + 1) (T.take k) := by rw [lost_snoc hx]; unfold lostX; rw [hX]; rfl
      conv => whnf
      rw [e0]
      refine ⟨(k + 1, e, S2), [], [], ?_, ⟨q', rfl, hcc, hnw, by rw [hs2]; exact hst⟩, by show T.length - (k + 1) < T.length - k; omega⟩
      dsimp only
      rw [hasks, hlost]
      repeat' (first | exact trivial | exact .inl (DLe.refl _) | exact .inl (DLe.nil _ _) | (refine .inr ⟨rfl, _, ?_, rfl⟩; rfl) | exact rfl | exact .inl rfl | exact .inr ⟨rfl, rfl, rfl, rfl⟩ | exact Nat.zero_le _ | constructor)
    | false =>
      have hdq : decide (x.due > d.now + 1) = false := by rw [← hpx, ← hnw]; exact hdue
      conv => whnf
      (refine pv_nil rfl ?_; (conv => whnf); refine pv_field ttH rfl rfl rfl ?_; conv => whnf)
      refine pv_loadA (i := 0) ttH rfl rfl rfl hpr rfl ?_
      cases hkn : p.pl.known with
      | true =>
        have hkx : x.known = true := by rw [← hpx]; exact hkn
        have hX : tickX d.c (d.now + 1) x = none := by unfold tickX; rw [hdq, hkx]; rfl
        have hA : askX d.c (d.now + 1) x = false := by unfold askX; rw [hdq, hkx]; rfl
        conv => whnf
        have hlq : lostX d.c (d.now + 1) x = p.pl.ws.length := by unfold lostX; rw [hX, hpx]
        have hs2 : stageT d.c (d.now + 1) T (k + 1) = tickT d.c (d.now + 1) (T.take k) ++ T.drop (k + 1) := by rw [s2, hX]; rfl
        rw [← hpx] at s1
        have hst1 : CStand e (tickT d.c (d.now + 1) (T.take k) ++ p.pl :: T.drop (k + 1)) := by rw [← s1]; exact hst
        obtain ⟨hdok, hdsub⟩ := del_pr hst.ok hL
        have hdst := del_stand hL hst1 hdok
        rw [← hs2] at hdst
        have hwe := waitsL_del (d := e) hL
        have hws : waitsL e.L ≤ 1000000 := by
          rw [hst.waits]
          refine Nat.le_trans ?_ hw
          rw [s1]
          have h1 : waitsT (tickT d.c (d.now + 1) (T.take k)) ≤ waitsT (T.take k) := waits_tick _ _ _
          have h2 : waitsT (p.pl :: T.drop (k + 1)) = waitsT (T.drop k) := by
            rw [hpx]
            obtain ⟨hl, hxx⟩ := List.getElem?_eq_some_iff.1 hx
            rw [List.drop_eq_getElem_cons hl, hxx]
          rw [waitsT_append, h2]
          conv => rhs; rw [← List.take_append_drop k T]
          rw [waitsT_append]
          omega
        have hl1 : lostT d.c (d.now + 1) (T.take k) ≤ 1000000 := Nat.le_trans (lostT_le _ _ _) (Nat.le_trans (waits_take _ _) hw)
        have ew : IntKind.i64.wrap (((waitsL e.L : Nat) : Int) - ((p.pl.ws.length : Nat) : Int)) = ((waitsL (e.del A B).L : Nat) : Int) := by
          rw [IntWalk.i64_in _ (by omega)]; omega
        have el : IntKind.i64.wrap (((lostT d.c (d.now + 1) (T.take k) : Nat) : Int) + ((p.pl.ws.length : Nat) : Int)) = ((lostT d.c (d.now + 1) (T.take (k + 1)) : Nat) : Int) := by
          rw [lost_snoc hx, hlq, IntWalk.i64_in _ (by omega)]; omega
        have hasks : asksT d.c (d.now + 1) (T.take (k + 1)) = asksT d.c (d.now + 1) (T.take k) := by rw [asks_snoc hx, hA]; exact List.append_nil _
        (refine pv_nil rfl ?_; (conv => whnf); refine pv_field ttH rfl rfl rfl ?_; conv => whnf)
        (refine pv_loadA (i := 0) ttH rfl rfl rfl (hpr) rfl ?_; conv => whnf)
        refine pv_lenS (row := p.row) (n := p.pl.ws.length) ttH (fun e => by rw [a1 e]; rfl) rfl rfl ?_
        conv => whnf
        rw [el]
        (refine pv_nil rfl ?_; (conv => whnf); refine pv_field ttH rfl rfl rfl ?_; conv => whnf)
        (refine pv_loadA (i := 0) ttH rfl rfl rfl (hhd) rfl ?_; conv => whnf)
        (refine pv_nil rfl ?_; (conv => whnf); refine pv_field ttH rfl rfl rfl ?_; conv => whnf)
        (refine pv_loadA (i := 0) ttH rfl rfl rfl (hpr) rfl ?_; conv => whnf)
        refine pv_lenS (row := p.row) (n := p.pl.ws.length) ttH (fun e => by rw [a1 e]; rfl) rfl rfl ?_
        conv => whnf
        (refine pv_nil rfl ?_; (conv => whnf); refine pv_field ttH rfl rfl rfl ?_; conv => whnf)
        rw [ew]
        refine op_storeA (i := 0) (l' := hdrC (e.del A B)) ttH rfl rfl rfl rfl hhd rfl rfl rfl rfl rfl ?_
        have hh1 : ∀ X, (cacheM e).upd e.cg X e.cg = X := fun X => by rw [upd_if, if_pos rfl]
        conv => whnf
        (refine pv_nil rfl ?_; (conv => whnf); refine pv_field ttH rfl rfl rfl ?_; conv => whnf)
        (refine pv_loadA (i := 0) ttH rfl rfl rfl (hh1 _) rfl ?_; conv => whnf)
        have ncm : e.cg ≠ e.mg := fun e' => by rw [e', hm] at hhd; cases hhd
        refine op_drop (i := 0) (M' := (cacheM (e.del A B)).upd e.mg (some (.ob (mapO e)))) rfl (fun k' x' hx' => ?_) fun S4 => ?_
        · rw [upd_if] at hx'
          refine (upd_if _ _ _ _).trans ?_
          by_cases e1 : k' = e.mg
          · rw [if_pos e1] at hx'
            rw [if_neg (by rw [e1]; exact Ne.symm ncm), e1, hm]
            exact hx'
          · rw [if_neg e1] at hx'
            rcases hdsub k' x' hx' with ⟨f1, f2⟩ | ⟨f1, f2, f3⟩ | ⟨f1, f2, f3⟩
            · rw [if_pos f1, f2]
            · exact absurd f2 e1
            · rw [if_neg f1, f3]
        have hmd : ∀ X, (cacheM (e.del A B)).upd e.mg X e.mg = X := fun X => by rw [upd_if, if_pos rfl]
        refine op_delMapA (i := 0) (g := e.mg) (L := e.L.map entP) (vs := [.int .i64 p.pl.key.1, .int .u32 p.pl.key.2]) rfl Try.underlying106 place_law rfl rfl rfl (hmd _) hlk hLk (fun hno => ?_) (fun j2 en2 he2 hek2 => ?_)
        · exact absurd rfl (hno (entP p) (List.mem_map_of_mem hp))
        obtain ⟨rfl, rfl⟩ := keys_at hst.ok hL he2 hek2
        have hmapd := map_del (d := e) hL
        rw [upd_updc, ← hmapd]
        have hself : (cacheM (e.del A B)).upd e.mg (some (.ob (mapO (e.del A B)))) = cacheM (e.del A B) := by
          funext k'
          rw [upd_if]
          by_cases e1 : k' = e.mg
          · rw [if_pos e1, e1]
            exact (cache_map hdok).symm
          · rw [if_neg e1]
        rw [hself]
        conv => whnf
        rw [e0]
        refine ⟨(k + 1, e.del A B, S4), [], [], ?_, ⟨q', rfl, hcc, hnw, hdst⟩, by show T.length - (k + 1) < T.length - k; omega⟩
        dsimp only
        rw [hasks]
        repeat' (first | exact trivial | exact .inl (DLe.refl _) | exact .inl (DLe.nil _ _) | (refine .inr ⟨rfl, _, ?_, rfl⟩; rfl) | exact rfl | exact .inl rfl | exact .inr ⟨rfl, rfl, rfl, rfl⟩ | exact Nat.zero_le _ | constructor)
      | false =>
        have hkx : x.known = false := by rw [← hpx]; exact hkn
        conv => whnf
        (refine pv_nil rfl ?_; (conv => whnf); refine pv_field ttH rfl rfl rfl ?_; conv => whnf)
        (refine pv_loadA (i := 0) ttH rfl rfl rfl (hpr) rfl ?_; conv => whnf)
        (refine pv_nil rfl ?_; (conv => whnf); refine pv_field ttH rfl rfl rfl ?_; conv => whnf)
        (refine pv_field ttH rfl rfl rfl ?_; conv => whnf)
        (refine pv_loadA (i := 0) ttH rfl rfl rfl (hhd) rfl ?_; conv => whnf)
        rw [hcc]
        cases htr : decide (p.pl.tries < d.c 31) with
        | false =>
          have htx : decide (x.tries < d.c 31) = false := by rw [← hpx]; exact htr
          have hX : tickX d.c (d.now + 1) x = none := by unfold tickX; rw [hdq, hkx, htx]; rfl
          have hA : askX d.c (d.now + 1) x = false := by unfold askX; rw [hdq, hkx, htx]; rfl
          conv => whnf
          have hlq : lostX d.c (d.now + 1) x = p.pl.ws.length := by unfold lostX; rw [hX, hpx]
          have hs2 : stageT d.c (d.now + 1) T (k + 1) = tickT d.c (d.now + 1) (T.take k) ++ T.drop (k + 1) := by rw [s2, hX]; rfl
          rw [← hpx] at s1
          have hst1 : CStand e (tickT d.c (d.now + 1) (T.take k) ++ p.pl :: T.drop (k + 1)) := by rw [← s1]; exact hst
          obtain ⟨hdok, hdsub⟩ := del_pr hst.ok hL
          have hdst := del_stand hL hst1 hdok
          rw [← hs2] at hdst
          have hwe := waitsL_del (d := e) hL
          have hws : waitsL e.L ≤ 1000000 := by
            rw [hst.waits]
            refine Nat.le_trans ?_ hw
            rw [s1]
            have h1 : waitsT (tickT d.c (d.now + 1) (T.take k)) ≤ waitsT (T.take k) := waits_tick _ _ _
            have h2 : waitsT (p.pl :: T.drop (k + 1)) = waitsT (T.drop k) := by
              rw [hpx]
              obtain ⟨hl, hxx⟩ := List.getElem?_eq_some_iff.1 hx
              rw [List.drop_eq_getElem_cons hl, hxx]
            rw [waitsT_append, h2]
            conv => rhs; rw [← List.take_append_drop k T]
            rw [waitsT_append]
            omega
          have hl1 : lostT d.c (d.now + 1) (T.take k) ≤ 1000000 := Nat.le_trans (lostT_le _ _ _) (Nat.le_trans (waits_take _ _) hw)
          have ew : IntKind.i64.wrap (((waitsL e.L : Nat) : Int) - ((p.pl.ws.length : Nat) : Int)) = ((waitsL (e.del A B).L : Nat) : Int) := by
            rw [IntWalk.i64_in _ (by omega)]; omega
          have el : IntKind.i64.wrap (((lostT d.c (d.now + 1) (T.take k) : Nat) : Int) + ((p.pl.ws.length : Nat) : Int)) = ((lostT d.c (d.now + 1) (T.take (k + 1)) : Nat) : Int) := by
            rw [lost_snoc hx, hlq, IntWalk.i64_in _ (by omega)]; omega
          have hasks : asksT d.c (d.now + 1) (T.take (k + 1)) = asksT d.c (d.now + 1) (T.take k) := by rw [asks_snoc hx, hA]; exact List.append_nil _
          (refine pv_nil rfl ?_; (conv => whnf); refine pv_field ttH rfl rfl rfl ?_; conv => whnf)
          (refine pv_loadA (i := 0) ttH rfl rfl rfl (hpr) rfl ?_; conv => whnf)
          refine pv_lenS (row := p.row) (n := p.pl.ws.length) ttH (fun e => by rw [a1 e]; rfl) rfl rfl ?_
          conv => whnf
          rw [el]
          (refine pv_nil rfl ?_; (conv => whnf); refine pv_field ttH rfl rfl rfl ?_; conv => whnf)
          (refine pv_loadA (i := 0) ttH rfl rfl rfl (hhd) rfl ?_; conv => whnf)
          (refine pv_nil rfl ?_; (conv => whnf); refine pv_field ttH rfl rfl rfl ?_; conv => whnf)
          (refine pv_loadA (i := 0) ttH rfl rfl rfl (hpr) rfl ?_; conv => whnf)
          refine pv_lenS (row := p.row) (n := p.pl.ws.length) ttH (fun e => by rw [a1 e]; rfl) rfl rfl ?_
          conv => whnf
          (refine pv_nil rfl ?_; (conv => whnf); refine pv_field ttH rfl rfl rfl ?_; conv => whnf)
          rw [ew]
          refine op_storeA (i := 0) (l' := hdrC (e.del A B)) ttH rfl rfl rfl rfl hhd rfl rfl rfl rfl rfl ?_
          have hh1 : ∀ X, (cacheM e).upd e.cg X e.cg = X := fun X => by rw [upd_if, if_pos rfl]
          conv => whnf
          (refine pv_nil rfl ?_; (conv => whnf); refine pv_field ttH rfl rfl rfl ?_; conv => whnf)
          (refine pv_loadA (i := 0) ttH rfl rfl rfl (hh1 _) rfl ?_; conv => whnf)
          have ncm : e.cg ≠ e.mg := fun e' => by rw [e', hm] at hhd; cases hhd
          refine op_drop (i := 0) (M' := (cacheM (e.del A B)).upd e.mg (some (.ob (mapO e)))) rfl (fun k' x' hx' => ?_) fun S4 => ?_
          · rw [upd_if] at hx'
            refine (upd_if _ _ _ _).trans ?_
            by_cases e1 : k' = e.mg
            · rw [if_pos e1] at hx'
              rw [if_neg (by rw [e1]; exact Ne.symm ncm), e1, hm]
              exact hx'
            · rw [if_neg e1] at hx'
              rcases hdsub k' x' hx' with ⟨f1, f2⟩ | ⟨f1, f2, f3⟩ | ⟨f1, f2, f3⟩
              · rw [if_pos f1, f2]
              · exact absurd f2 e1
              · rw [if_neg f1, f3]
          have hmd : ∀ X, (cacheM (e.del A B)).upd e.mg X e.mg = X := fun X => by rw [upd_if, if_pos rfl]
          refine op_delMapA (i := 0) (g := e.mg) (L := e.L.map entP) (vs := [.int .i64 p.pl.key.1, .int .u32 p.pl.key.2]) rfl Try.underlying106 place_law rfl rfl rfl (hmd _) hlk hLk (fun hno => ?_) (fun j2 en2 he2 hek2 => ?_)
          · exact absurd rfl (hno (entP p) (List.mem_map_of_mem hp))
          obtain ⟨rfl, rfl⟩ := keys_at hst.ok hL he2 hek2
          have hmapd := map_del (d := e) hL
          rw [upd_updc, ← hmapd]
          have hself : (cacheM (e.del A B)).upd e.mg (some (.ob (mapO (e.del A B)))) = cacheM (e.del A B) := by
            funext k'
            rw [upd_if]
            by_cases e1 : k' = e.mg
            · rw [if_pos e1, e1]
              exact (cache_map hdok).symm
            · rw [if_neg e1]
          rw [hself]
          conv => whnf
          rw [e0]
          refine ⟨(k + 1, e.del A B, S4), [], [], ?_, ⟨q', rfl, hcc, hnw, hdst⟩, by show T.length - (k + 1) < T.length - k; omega⟩
          dsimp only
          rw [hasks]
          repeat' (first | exact trivial | exact .inl (DLe.refl _) | exact .inl (DLe.nil _ _) | (refine .inr ⟨rfl, _, ?_, rfl⟩; rfl) | exact rfl | exact .inl rfl | exact .inr ⟨rfl, rfl, rfl, rfl⟩ | exact Nat.zero_le _ | constructor)
        | true =>
          have htx : decide (x.tries < d.c 31) = true := by rw [← hpx]; exact htr
          have hX : tickX d.c (d.now + 1) x = some { x with tries := x.tries + 1, due := d.now + 1 + clampW (d.c 30) } := by unfold tickX; rw [hdq, hkx, htx]; rfl
          have hA : askX d.c (d.now + 1) x = true := by unfold askX; rw [hdq, hkx, htx]; rfl
          have htb : 0 ≤ p.pl.tries := by rw [hpx]; exact (hok x hxm).2.2
          have htc := (hc 31 (by decide) (by decide)).2
          have htl := of_decide_eq_true htr
          have et : IntKind.i64.wrap (p.pl.tries + 1) = p.pl.tries + 1 := IntWalk.i64_in _ (by omega)
          have hdue2 := due_fn e (d.c 30) (by rw [hnw]; omega)
          have hlost : lostT d.c (d.now + 1) (T.take (k + 1)) = lostT d.c (d.now + 1) (T.take k) := by rw [lost_snoc hx]; unfold lostX; rw [hX]; rfl
          have hasks : asksT d.c (d.now + 1) (T.take (k + 1)) = asksT d.c (d.now + 1) (T.take k) ++ [x.key] := by rw [asks_snoc hx, hA]
          have hal : (asksT d.c (d.now + 1) (T.take k)).length ≤ 100000 := by
            unfold asksT
            rw [List.length_map]
            exact Nat.le_trans (List.length_filter_le _ _) (Nat.le_trans (by rw [List.length_take]; omega) hT)
          obtain ⟨r, hr⟩ : ∃ r : Pr, r = { p with pl := { p.pl with tries := p.pl.tries + 1, due := d.now + 1 + clampW (d.c 30) } } := ⟨_, rfl⟩
          obtain ⟨hrok, hrM⟩ := put_same (q := r) hst.ok hL (by rw [hr]) (by rw [hr]) (by rw [hr]) (by rw [hr]) (by rw [hr]; rfl) (by rw [hr])
          have hrst := put_stand (q := r) hst hL (by rw [hr]; rfl) hrok
          have hkeysS := hst.keysT
          rw [s1, ← hpx] at hrst hkeysS
          rw [updT_split hkeysS (by rw [hr]; rfl)] at hrst
          have hrpl : r.pl = { x with tries := x.tries + 1, due := d.now + 1 + clampW (d.c 30) } := by rw [hr, ← hpx]
          have hs2 : stageT d.c (d.now + 1) T (k + 1) = tickT d.c (d.now + 1) (T.take k) ++ r.pl :: T.drop (k + 1) := by rw [s2, hX, hrpl]; rfl
          rw [← hs2] at hrst
          have hprc : prC r = [boolD p.pl.known, u8D (p.pl.mac 0), u8D (p.pl.mac 1), u8D (p.pl.mac 2), u8D (p.pl.mac 3), u8D (p.pl.mac 4), u8D (p.pl.mac 5), intD (p.pl.tries + 1), intD (d.now + 1 + clampW (d.c 30)), .v (slV p.row p.pl.ws.length)] := by rw [hr]; rfl
          have hp1 : ∀ X, (cacheM e).upd p.g X p.g = X := fun X => by rw [upd_if, if_pos rfl]
          have hpc : e.cg ≠ p.g := (cache_ne hst.ok hp).2.1
          have hh1 : ∀ X, (cacheM e).upd p.g X e.cg = some (.cells 108 (hdrC e)) := fun X => by rw [upd_if, if_neg hpc, hhd]
          conv => whnf
          (refine pv_nil rfl ?_; (conv => whnf); refine pv_field ttH rfl rfl rfl ?_; conv => whnf)
          (refine pv_loadA (i := 0) ttH rfl rfl rfl (hpr) rfl ?_; conv => whnf)
          (refine pv_nil rfl ?_; (conv => whnf); refine pv_field ttH rfl rfl rfl ?_; conv => whnf)
          rw [et]
          refine op_storeA (i := 0) (l' := [boolD p.pl.known, u8D (p.pl.mac 0), u8D (p.pl.mac 1), u8D (p.pl.mac 2), u8D (p.pl.mac 3), u8D (p.pl.mac 4), u8D (p.pl.mac 5), intD (p.pl.tries + 1), intD p.pl.due, .v (slV p.row p.pl.ws.length)]) ttH rfl rfl rfl rfl hpr rfl rfl rfl rfl rfl ?_
          conv => whnf
          (refine pv_nil rfl ?_; (conv => whnf); refine pv_field ttH rfl rfl rfl ?_; conv => whnf)
          (refine pv_field ttH rfl rfl rfl ?_; conv => whnf)
          (refine pv_loadA (i := 0) ttH rfl rfl rfl (hh1 _) rfl ?_; conv => whnf)
          rw [hcc]
          refine CallVC.lookA (i := 0) hdue2 rfl rfl (conv_fp (hh1 _)) ?_
          rintro _ rfl
          rw [hnw]
          conv => whnf
          (refine pv_nil rfl ?_; (conv => whnf); refine pv_field ttH rfl rfl rfl ?_; conv => whnf)
          refine op_storeA (i := 0) (l' := prC r) ttH rfl rfl rfl rfl (hp1 _) rfl rfl rfl rfl (by rw [hprc]; rfl) ?_
          rw [upd_updc, hrM]
          conv => whnf
          refine ⟨by decide, ?_⟩
          conv => whnf
          refine ⟨Int × Int, plC, asksT d.c (d.now + 1) (T.take k) ++ [x.key], by rw [List.map_append, ← hpx]; rfl, fun _ => rfl, by rw [List.length_append]; show _ + 1 ≤ _; omega, by rw [List.length_append]; show (_ + 1) * 16 ≤ _; omega, rfl, ?_⟩
          conv => whnf
          rw [e0]
          refine ⟨(k + 1, e.put A B r, S2), [(1, 3)], [], ?_, ⟨q', rfl, hcc, hnw, hrst⟩, by show T.length - (k + 1) < T.length - k; omega⟩
          dsimp only
          rw [hasks, hlost]
          repeat' (first | exact trivial | exact .inl (DLe.refl _) | exact .inl (DLe.nil _ _) | (refine .inr ⟨rfl, _, ?_, rfl⟩; rfl) | exact rfl | exact .inl rfl | exact .inr ⟨rfl, rfl, rfl, rfl⟩ | exact Nat.zero_le _ | constructor)
  · have q' : k = T.length := by have := of_decide_eq_false q; omega
    subst q'
    rw [stage_end] at hst
    rw [List.take_length]
    conv => whnf
    exact .frz 1 _ _ _ _ _ rfl (.done _ _ rfl rfl ⟨rfl, e, rfl, rfl, hcc, hnw, hst⟩)
end Go.Proofs.Ytfepckbhnghpeaa.V
