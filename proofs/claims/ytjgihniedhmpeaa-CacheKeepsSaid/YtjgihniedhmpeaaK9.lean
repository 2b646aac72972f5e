/-
  The places of a cache, in order: the program's, by value. Conditions: the cache stands right.
  The places of a cache, in order: the program's, by value. Conditions: the cache stands right.
  Places sorted; the places of a cache, in order, by value. Conditions: the cache stands right.
-/
import Derived.Test.YtjgihniedhmpeaaK6
import Derived.Test.YtjgihniedhmpeaaCh
import Derived.Test.YtjgihniedhmpeaaK8
import Derived.Test.YtjgihniedhmpeaaK7
import Derived.Shelf.SlSortCmp.NoneTotal
namespace Go.Proofs.Ytjgihniedhmpeaa.V
open Go.RowKit Go.Shelf Go.Sort Go.Lib
attribute [local irreducible] Fn FnN OpVC ArC FnR ArL

/-! ### The comparison -/
def cmpP (a b : Int) : Int := match decide (a < b) with
  | true => -1
  | false => match decide (b < a) with
    | true => 1
    | false => 0
theorem cmpP_lt (a b : Int) : decide (cmpP a b < 0) = decide (a < b) := by
  unfold cmpP
  cases h1 : decide (a < b) with
  | true => rfl
  | false => cases h2 : decide (b < a) <;> rfl
theorem nanI_fn (x : Int) : Fn Try.prog 43 [intD x] fun d => d = boolD false := by
  refine fnOf [] Try.func43 rfl (by kernel_rfl) (Nat.le_of_ble_eq_true rfl) ?_
  conv => whnf
  rw [decide_eq_true (rfl : x = x)]
  rfl
theorem nanU_fn (x : Int) : Fn Try.prog 44 [u32D x] fun d => d = boolD false := by
  refine fnOf [] Try.func44 rfl (by kernel_rfl) (Nat.le_of_ble_eq_true rfl) ?_
  conv => whnf
  rw [decide_eq_true (rfl : x = x)]
  rfl
theorem cmpInt_fn (a b : Int) : Fn Try.prog 38 [intD a, intD b] fun d => d = intD (cmpP a b) := by
  refine fnOf [] Try.func38 rfl (by kernel_rfl) (Nat.le_of_ble_eq_true rfl) ?_
  unfold cmpP
  conv => whnf
  (refine CallVC.pure (nanI_fn a) rfl ?_; rintro _ rfl; conv => whnf)
  (refine CallVC.pure (nanI_fn b) rfl ?_; rintro _ rfl; conv => whnf)
  cases h1 : decide (a < b) with
  | true => conv => whnf
  | false =>
    conv => whnf
    cases h2 : decide (b < a) with
    | true => conv => whnf
    | false => conv => whnf
theorem cmpU_fn (a b : Int) : Fn Try.prog 39 [u32D a, u32D b] fun d => d = intD (cmpP a b) := by
  refine fnOf [] Try.func39 rfl (by kernel_rfl) (Nat.le_of_ble_eq_true rfl) ?_
  unfold cmpP
  conv => whnf
  (refine CallVC.pure (nanU_fn a) rfl ?_; rintro _ rfl; conv => whnf)
  (refine CallVC.pure (nanU_fn b) rfl ?_; rintro _ rfl; conv => whnf)
  cases h1 : decide (a < b) with
  | true => conv => whnf
  | false =>
    conv => whnf
    cases h2 : decide (b < a) with
    | true => conv => whnf
    | false => conv => whnf
def orP (a b : Int) : Int := match decide (a = 0) with
  | true => b
  | false => a
set_option maxHeartbeats 1000000 in
theorem cmpOr_fn (a b : Int) : Fn Try.prog 37 [.lit 1 [[intD a], [intD b]]] fun d => d = intD (orP a b) := by
  refine fnOf [] Try.func37 rfl (by kernel_rfl) (Nat.le_of_ble_eq_true rfl) ?_
  unfold orP
  conv => whnf
  refine ⟨Nat, fun k => ⟨[(8, intD k), (7, intD 2), (6, .lit 1 [[intD a], [intD b]]), (3, intD 0)], [], 0, ([], 0)⟩, fun k => k = 0 ∨ (k = 1 ∧ a = 0) ∨ (k = 2 ∧ a = 0 ∧ b = 0), fun k => 2 - k, ⟨0, [], [], ?_, .inl rfl⟩, ?_⟩
  · repeat' (first | exact trivial | exact .inl (DLe.refl _) | exact .inl (DLe.nil _ _) | (refine .inr ⟨rfl, _, ?_, rfl⟩; rfl) | exact rfl | exact .inl rfl | exact .inr ⟨rfl, rfl, rfl, rfl⟩ | exact Nat.zero_le _ | constructor)
  intro k hk
  rcases hk with rfl | ⟨rfl, ha⟩ | ⟨rfl, ha, hb⟩
  · conv => whnf
    refine ⟨rfl, ?_⟩
    conv => whnf
    cases h1 : decide (a = 0) with
    | true =>
      conv => whnf
      refine ⟨1, [], [], ?_, .inr (.inl ⟨rfl, of_decide_eq_true h1⟩), by decide⟩
      repeat' (first | exact trivial | exact .inl (DLe.refl _) | exact .inl (DLe.nil _ _) | (refine .inr ⟨rfl, _, ?_, rfl⟩; rfl) | exact rfl | exact .inl rfl | exact .inr ⟨rfl, rfl, rfl, rfl⟩ | exact Nat.zero_le _ | constructor)
    | false => conv => whnf
  · conv => whnf
    refine ⟨rfl, ?_⟩
    conv => whnf
    rw [decide_eq_true ha]
    cases h1 : decide (b = 0) with
    | true =>
      conv => whnf
      refine ⟨2, [], [], ?_, .inr (.inr ⟨rfl, ha, of_decide_eq_true h1⟩), by decide⟩
      repeat' (first | exact trivial | exact .inl (DLe.refl _) | exact .inl (DLe.nil _ _) | (refine .inr ⟨rfl, _, ?_, rfl⟩; rfl) | exact rfl | exact .inl rfl | exact .inr ⟨rfl, rfl, rfl, rfl⟩ | exact Nat.zero_le _ | constructor)
    | false => conv => whnf
  · conv => whnf
    rw [decide_eq_true ha, hb]
theorem orP_key (a b : Int × Int) (ha : keyR a) (hb : keyR b) : orP (cmpP a.1 b.1) (cmpP a.2 b.2) = cmpP (keyN a) (keyN b) := by
  have h := keyN_lt ha hb
  have h' := keyN_lt hb ha
  unfold orP cmpP
  rcases Int.lt_trichotomy a.1 b.1 with h1 | h1 | h1
  · rw [decide_eq_true h1, decide_eq_true (h.2 (.inl h1))]
    rfl
  · rw [decide_eq_false (show ¬ a.1 < b.1 by omega), decide_eq_false (show ¬ b.1 < a.1 by omega)]
    have e1 : decide (keyN a < keyN b) = decide (a.2 < b.2) := decide_eq_decide.2 (h.trans (by omega))
    have e2 : decide (keyN b < keyN a) = decide (b.2 < a.2) := decide_eq_decide.2 (h'.trans (by omega))
    rw [e1, e2]
    rfl
  · rw [decide_eq_false (show ¬ a.1 < b.1 by omega), decide_eq_true h1, decide_eq_false (show ¬ keyN a < keyN b by rw [h]; omega), decide_eq_true (h'.2 (.inl h1))]
    rfl
theorem order1_fn (a b : Int × Int) (ha : keyR a) (hb : keyR b) : Fn Try.prog 36 [.agg (plC a), .agg (plC b)] fun d => d = intD (cmpP (keyN a) (keyN b)) := by
  refine fnOf [(1, [0, 1, 2, 3, 5, 6, 7, 8, 4, 9, 10, 11, 12])] Try.func36 rfl (by kernel_rfl) (Nat.le_of_ble_eq_true rfl) ?_
  rw [← orP_key a b ha hb]
  have h1 := cmpInt_fn a.1 b.1
  have h2 := cmpU_fn a.2 b.2
  generalize cmpP a.1 b.1 = x at *
  generalize cmpP a.2 b.2 = y at *
  have h3 := cmpOr_fn x y
  conv => whnf
  (refine CallVC.pure (h1) rfl ?_; rintro _ rfl; conv => whnf)
  (refine CallVC.pure (h2) rfl ?_; rintro _ rfl; conv => whnf)
  refine ⟨by decide, ?_⟩
  conv => whnf
  (refine CallVC.pure (h3) rfl ?_; rintro _ rfl; conv => whnf)
end Go.Proofs.Ytjgihniedhmpeaa.V
namespace Go.Proofs.Ytjgihniedhmpeaa.V
open Go.RowKit Go.Shelf Go.Sort Go.Lib
attribute [local irreducible] Fn FnN OpVC ArC FnR ArL

section
variable {E : Env} {s : St} {σ : Nat → Nat} {τ : Nat → Value} {a : Act} {w : World}
theorem newRow_state (hs : SR E s σ τ a w) {w' : World} (hu : Under w.heap.size w w') {α : Type} {el e : Nat} {enc : α → List D} {L : List α} {v : Value} {xs : List Value} (hsl : ∃ p l c, v = .slice p l c) (hbk : ∀ g, v.ownBlock = some g → w.heap.size ≤ g) (hown : w'.ownsRow 0 el e v L.length xs)
    (hlen : ∀ (i : Nat) x, L[i]? = some x → (enc x).length = e) (hrep : ∀ (i : Nat) x (j : Nat) d u, L[i]? = some x → (enc x)[j]? = some d → xs[i * e + j]? = some u → ∀ C, Rep C d u) :
    ∃ σ2 τ2, SR E ⟨s.F, (s.nx, .grow α el e enc L) :: s.H, s.nx + 1, s.G⟩ σ2 τ2 a w' ∧ Rep (ctxOf E ((s.nx, .grow α el e enc L) :: s.H) (s.nx + 1) σ2 τ2 w') (.grow s.nx) v ∧ Below w.heap.size w w' := by
  let τ1 : Nat → Value := fun i => if i = s.nx then v else τ i
  have hτ : τ1 s.nx = v := if_pos rfl
  have own : ∀ id k, owned [(s.nx, .grow α el e enc L)] σ τ1 id k → id = s.nx := by
    intro id k ho
    by_cases hid : id = s.nx
    · exact hid
    · rcases ho with ⟨el', l', h1, _⟩ | ⟨α, el', e, enc, L, h1, _⟩ | ⟨o, h1, _⟩ <;> (rw [lget_ne _ _ hid] at h1; cases h1)
  have h2 : HR (freshEnv E s σ τ w 1) [(s.nx, .grow α el e enc L)] (s.nx + 1) σ τ1 w' := by
    refine ⟨⟨hu.os, hu.tape, hu.output, hu.size, fun k hk _ => hu.block k hk, hu.drawn⟩, fun k hk => ⟨fun h => h, hk.2.1⟩, fun id el l hl => ?_, fun id α' el' e' enc' L' hl => ?_, fun i j k h1 h2 => (own i k h1).trans (own j k h2).symm, fun id o hl => ?_, fun id => ?_, fun id o hl => ?_⟩
    · by_cases hid : id = s.nx
      · subst hid; rw [lget_same] at hl; cases hl
      · rw [lget_ne _ _ hid] at hl; cases hl
    · by_cases hid : id = s.nx
      · subst hid
        rw [lget_same] at hl
        injection hl with hl; injection hl with q1 q2 q3 q4 q5; subst q1 q2 q3
        obtain rfl := eq_of_heq q4
        obtain rfl := eq_of_heq q5
        rw [hτ]
        exact ⟨fun g hg => .inr (hbk g hg), xs, hown, hlen, fun i x j d u hx hd hu => hrep i x j d u hx hd hu _⟩
      · rw [lget_ne _ _ hid] at hl; cases hl
    · by_cases hid : id = s.nx
      · subst hid; exact Nat.lt_succ_self _
      · rw [lget_ne _ _ hid] at hl; cases hl
    · by_cases hid : id = s.nx
      · subst hid; rw [hτ]; exact hsl
      · show ∃ p l c, (if id = s.nx then v else τ id) = _
        rw [if_neg hid]; exact hs.heap.slices id
    · by_cases hid : id = s.nx
      · subst hid; rw [lget_same] at hl; cases hl
      · rw [lget_ne _ _ hid] at hl; cases hl
  have hge : idsGe s.nx [(s.nx, .grow α el e enc L)] = true := by
    simp only [idsGe, loGe, Bool.and_true]
    exact Nat.ble_eq_true_of_le (Nat.le_refl _)
  obtain ⟨hbel, σ2, τ2, h6, h7⟩ := merge_state hs h2 hge (Nat.le_succ _)
  exact ⟨σ2, τ2, h6, h7 _ _ (Nat.ble_eq_true_of_le (Nat.le_refl _)) (.grow ⟨Nat.lt_succ_self _, hτ.symm⟩), hbel⟩
end
theorem plCells_get : ∀ {L : List (Int × Int)} {i : Nat} {x : Int × Int} {j : Nat} {d : D} {u : Value}, L[i]? = some x → (plC x)[j]? = some d → (Go.Proofs.Ytjgihniedhmpeaa.plCells L)[i * 2 + j]? = some u → d = .v u
  | [], _, _, _, _, _, h, _, _ => by simp at h
  | y :: r, 0, x, j, d, u, h, hd, hu => by
    injection h with h; subst h
    unfold Go.Proofs.Ytjgihniedhmpeaa.plCells at hu
    rw [List.flatMap_cons, Nat.zero_mul, Nat.zero_add] at hu
    match j, hd with
    | 0, hd => injection hd with hd; injection hu with hu; subst hd hu; rfl
    | 1, hd => injection hd with hd; injection hu with hu; subst hd hu; rfl
    | j + 2, hd => simp [plC] at hd
  | y :: r, i + 1, x, j, d, u, h, hd, hu => by
    unfold Go.Proofs.Ytjgihniedhmpeaa.plCells at hu
    rw [List.flatMap_cons, Nat.succ_mul, show i * 2 + 2 + j = (i * 2 + j) + 1 + 1 by omega] at hu
    exact plCells_get (L := r) (by simpa using h) hd hu
theorem collect_vc {s : St} {gg : Bool} {i j mg clk : Nat} {S : Nat → Prop} {M : Ar} {el : TypeId} {es : List MapEntry} (hid : lget s.H i = some (arL S M)) (hbox : lget s.H j = some (.cells el [.v (.map (some mg))])) (hM : M mg = some (.ob (.map es.toArray clk)))
    (hes : es.length ≤ 1000000) (hborn : ∀ e ∈ es, e.born < clk) (hnd : (es.map (·.born)).Nodup) (hkey : ∀ e ∈ es, ∃ x y, e.key = .agg #[.int .i64 x, .int .u32 y]) {K : D → St → Prop}
    (h : ∀ (xs : List (Int × Int)) (vis : List MapEntry), vis.Perm es → vis.map (·.key) = xs.map Go.Proofs.Ytjgihniedhmpeaa.plV → K (.grow s.nx) ⟨s.F, (s.nx, .grow (Int × Int) 39 2 plC xs) :: s.H, s.nx + 1, s.G⟩) :
    CallVC Try.prog gg 40 [.fn 42 [] [.loc j 0]] s K := by
  refine ⟨⟨_, Try.func40, rfl⟩, fun E σ τ a w args' hs hr => ?_⟩
  obtain ⟨hal, har⟩ := hr
  obtain ⟨va, rfl⟩ : ∃ va, args' = [va] := by
    match args', hal with
    | [x], _ => exact ⟨x, rfl⟩
  have ha := har 0 _ va rfl rfl
  obtain ⟨_, c, hc, hcl, hcr⟩ := hs.heap.cells j _ _ hbox
  have hva : va = .func (.func 42) #[] #[.pointer (some ⟨σ j, 0, none⟩)] := by
    cases ha with
    | fn e1 e2 e3 e4 =>
      rename_i x y
      have : x = #[] := Array.eq_empty_of_size_eq_zero e1
      subst this
      obtain ⟨u, hu⟩ : ∃ u, y = #[u] := by
        have e2 : y.toList.length = 1 := by simpa using e2
        match hy : y.toList, e2 with
        | [u], _ => exact ⟨u, by apply Array.ext'; rw [hy]⟩
      subst hu
      have := e4 0 (.loc j 0) u rfl rfl
      cases this with
      | loc hl => rw [hl.2]
  subst hva
  have hm0 : w.cell? ⟨σ j, 0, none⟩ = some (.map (some mg)) := by
    have h1 : ∃ u, c[0]? = some u := ⟨_, Array.getElem?_eq_getElem (by rw [hcl]; exact Nat.zero_lt_one)⟩
    obtain ⟨u, hu⟩ := h1
    have := rep_v (hcr 0 _ u rfl hu)
    subst this
    simp [World.cell?, hc, hu]
  have hmb : w.heap[mg]? = some (.map es.toArray clk) := ar_at hs hid hM
  have hcall := calls_drawn ((Go.Proofs.Ytjgihniedhmpeaa.collectPl_in (σ j) mg clk w (Array.getElem?_eq_some_iff.1 hc).1 es hes hborn hnd hkey hm0 hmb).calls fun k d hd => by cases hd)
  refine hcall.mono fun e w' hh => ?_
  obtain ⟨⟨v, xs, vis, rfl, h1, h2, h3, h4⟩, h5⟩ := hh
  have hu : Under w.heap.size w w' := ⟨h4, h5 ⟨v, rfl⟩⟩
  have hsl : ∃ p l c, v = .slice p l c := by
    rcases h3.2 with ⟨h6, _⟩ | ⟨_, _, _, h6, _⟩
    · exact ⟨_, _, _, h6⟩
    · exact ⟨_, _, _, h6⟩
  have hbk : ∀ g, v.ownBlock = some g → w.heap.size ≤ g := fun g hg => by
    rcases h3.2 with ⟨h6, _⟩ | ⟨g', _, _, h6, h7, _⟩
    · rw [h6] at hg; cases hg
    · rw [h6] at hg; injection hg with hg; subst hg; exact h7
  have hown : w'.ownsRow 0 39 2 v xs.length (Go.Proofs.Ytjgihniedhmpeaa.plCells xs) := by
    refine ⟨h3.1, ?_⟩
    rcases h3.2 with h6 | ⟨g', c', cu, h6, _, h7⟩
    · exact .inl h6
    · exact .inr ⟨g', c', cu, h6, Nat.zero_le _, h7⟩
  obtain ⟨σ2, τ2, h6, h7, h8⟩ := newRow_state hs hu (α := Int × Int) (enc := plC) (L := xs) hsl hbk hown (fun _ _ _ => rfl) fun i x j d u hx hd hu C => by rw [plCells_get hx hd hu]; exact .v
  exact ⟨_, _, σ2, τ2, v, h xs vis h1 h2, rfl, h6, h7, fun _ => h8⟩
end Go.Proofs.Ytjgihniedhmpeaa.V
namespace Go.Proofs.Ytjgihniedhmpeaa.V
open Go.RowKit Go.Shelf Go.Sort Go.Lib

theorem SR.same_Hc {E : Env} {s : St} {σ : Nat → Nat} {τ : Nat → Value} {a : Act} {w : World} (hs : SR E s σ τ a w) {H' : List (Nat × LO)} (hH : ∀ j, lget H' j = lget s.H j) : SR E ⟨s.F, H', s.nx, s.G⟩ σ τ a w := by
  have e1 : ∀ id b, owned H' σ τ id b = owned s.H σ τ id b := fun id b => by unfold owned; rw [hH]
  have e2 : ctxOf E H' s.nx σ τ w = ctxOf E s.H s.nx σ τ w := by unfold ctxOf; simp only [e1]
  refine ⟨⟨hs.heap.kept, hs.heap.few, fun id el l h => ?_, fun id α el e enc L h => ?_, fun i j b h1 h2 => hs.heap.apart i j b (e1 _ _ ▸ h1) (e1 _ _ ▸ h2), fun id o h => hs.heap.below id o (hH id ▸ h), hs.heap.slices, fun id o h => ?_⟩, hs.defers, hs.size, fun i d hd => ?_, fun G d v hx => ?_, hs.room⟩
  · show _ ∧ ∃ c, _ ∧ _ ∧ ∀ (j : Nat) d u, _ → _ → Rep (ctxOf E H' s.nx σ τ w) d u
    rw [e2]; exact hs.heap.cells id el l (hH id ▸ h)
  · show _ ∧ ∃ xs, _ ∧ _ ∧ ∀ (i : Nat) x (j : Nat) d u, _ → _ → _ → Rep (ctxOf E H' s.nx σ τ w).still d u
    rw [e2]; exact hs.heap.grow id α el e enc L (hH id ▸ h)
  · rw [e2]; exact hs.heap.obj id o (hH id ▸ h)
  · show Rep (ctxOf E H' s.nx σ τ w) _ _
    rw [e2]; exact hs.slots i d hd
  · obtain ⟨h1, h2, h3⟩ := hs.ghost G d v hx
    refine ⟨h1, h2, ?_⟩
    show Rep ((ctxOf E H' s.nx σ τ w).only G) d v
    rw [e2]; exact h3

theorem agg_vc {C : Ctx} (l : List Value) : Rep C (.agg (l.map .v)) (.agg l.toArray) := by
  refine .agg (by simp) fun j d u hd hu => ?_
  rw [List.getElem?_map] at hd
  have hu : l[j]? = some u := by simpa using hu
  rw [hu] at hd
  simp only [Option.map_some, Option.some.injEq] at hd
  subst hd
  exact .v
theorem cmp_anyc {g : FuncId} {a b : List Value} {r : Int} (h : Fn Try.prog g [.agg (a.map .v), .agg (b.map .v)] fun d => d = intD r) (W : World) :
    Calls Try.prog g #[.agg a.toArray, .agg b.toArray] W fun e w' => e = .returned (.int .i64 r) ∧ ∃ q os', w' = grow (W.drewN q) os' := by
  refine (h.2 W (fun _ => False) [.agg a.toArray, .agg b.toArray] (fun _ h => h.elim) (reps_cons (agg_vc a) (reps_cons (agg_vc b) reps_nil))).mono fun e w' hh => ?_
  obtain ⟨d, v, rfl, rfl, hu, hr⟩ := hh
  rw [rep_v hr]
  exact ⟨rfl, under_grow hu⟩

theorem swo_keyP {β : Type} (key : β → Int) : SWO (ltOf fun x y => cmpP (key x) (key y)) where
  irrefl x := by show decide (cmpP _ _ < 0) = false; rw [cmpP_lt]; simp
  trans x y z h1 h2 := by
    have h1 : decide (cmpP _ _ < 0) = true := h1
    have h2 : decide (cmpP _ _ < 0) = true := h2
    show decide (cmpP _ _ < 0) = true
    rw [cmpP_lt] at *
    exact decide_eq_true (Int.lt_trans (of_decide_eq_true h1) (of_decide_eq_true h2))
  ntrans x y z h1 h2 := by
    have h1 : decide (cmpP _ _ < 0) = false := h1
    have h2 : decide (cmpP _ _ < 0) = false := h2
    show decide (cmpP _ _ < 0) = false
    rw [cmpP_lt] at *
    exact decide_eq_false (by have h1 := of_decide_eq_false h1; have h2 := of_decide_eq_false h2; omega)


attribute [local irreducible] Fn FnN OpVC ArC FnR ArL
abbrev KeyS := {k : Int × Int // keyR k}
instance : Inhabited KeyS := ⟨⟨(0, 0), by unfold keyR; decide⟩⟩
def plVs (x : Int × Int) : List Value := [.int .i64 x.1, .int .u32 x.2]
theorem sortP_vc {s : St} {id : Nat} {L S : List (Int × Int)} {K : D → St → Prop} (hid : lget s.H id = some (.grow (Int × Int) 39 2 plC L)) (hL : ∀ x, x ∈ L → keyR x) (hsz : L.length ≤ 1000000)
    (hS : S.Pairwise fun x y => keyN x < keyN y) (hp : S.Perm L) (h : K (.tup []) ⟨s.F, (id, .grow (Int × Int) 39 2 plC S) :: s.H, s.nx, s.G⟩) :
    CallVC Try.prog false 41 [.grow id, .fn 36 [] []] s K := by
  have hb : hasBody Try.prog 41 := ⟨_, Try.func41, rfl⟩
  have hen : ∀ args w, (callFunc 36 args).run Try.prog w = .ok (.enter 36 args) w := enters_of Try.func36 (by kernel_rfl) rfl
  obtain ⟨M, rfl⟩ := sub_list L hL
  rw [List.length_map] at hsz
  by_cases hpos : 0 < M.length
  · refine sort_vc sortPL (β := KeyS) (val := Subtype.val) (fun x : KeyS => plVs x.val) (fun _ => rfl) (fun _ => rfl) (by decide) (fun x v hv => by simp [plVs] at hv; rcases hv with rfl | rfl <;> rfl) Try.isAgg39 Try.sizeOf39 (fun x y : KeyS => cmpP (keyN x.val) (keyN y.val)) (swo_keyP fun x : KeyS => keyN x.val) _ hen (fun x y W => cmp_anyc (order1_fn x.val y.val x.2 y.2) W) hb hid hpos (by omega) fun M' hm hs => ?_
    rw [show M'.map Subtype.val = S from sorted_one (key := keyN) hS ((hm.map _).trans hp.symm) fun i j x y hij hx hy => by
      obtain ⟨x', hx', rfl⟩ := map_get hx
      obtain ⟨y', hy', rfl⟩ := map_get hy
      have := hs i j x' y' hij hx' hy'
      have h2 := cmpP_lt (keyN y'.val) (keyN x'.val)
      rw [decide_eq_false (by omega)] at h2
      have := of_decide_eq_false h2.symm
      omega]
    exact h
  · have hM : M = [] := List.eq_nil_of_length_eq_zero (by omega)
    subst hM
    obtain rfl := hp.eq_nil
    refine ⟨hb, fun E σ τ a w args' hs hr => ?_⟩
    obtain ⟨hal, har⟩ := hr
    obtain ⟨va, vb, rfl⟩ : ∃ va vb, args' = [va, vb] := by
      match args', hal with
      | [x, y], _ => exact ⟨x, y, rfl⟩
    have hav : va = τ id := by
      have := har 0 _ va rfl rfl
      cases this with
      | grow hg => exact hg.2
    obtain ⟨_, xs, ⟨_, hown⟩, _⟩ := hs.heap.grow id _ _ _ _ _ hid
    obtain ⟨p, c, hv⟩ : ∃ p c, va = .slice p 0 c := by
      rcases hown with ⟨h1, _⟩ | ⟨g, cap, cur, h1, _⟩
      · exact ⟨_, _, hav.trans h1⟩
      · exact ⟨_, _, hav.trans h1⟩
    subst hv
    refine (AnyF.slices_SortFunc_none sortPL p c vb w).mono fun e w' hh => ?_
    obtain ⟨rfl, rfl⟩ := hh
    refine ⟨_, _, σ, τ, _, h, rfl, ?_, .tup rfl (fun j d u hd hu => by cases hd), fun hg => by cases hg⟩
    refine hs.same_Hc fun j => ?_
    by_cases hj : j = id
    · subst hj; rw [lget_same, hid]; rfl
    · rw [lget_ne _ _ hj]
abbrev plsR (L : List (Int × Int)) : D := .rows (Int × Int) 2 plC L
theorem CStand.keysR {d : CDat} {T : List Pl} (h : CStand d T) : ∀ k ∈ T.map Pl.key, keyR k := fun k hk => by
  obtain ⟨x, hx, rfl⟩ := List.mem_map.1 hk
  exact h.sort.1 x hx
def unplV : Value → Int × Int
  | .agg ⟨[.int _ a, .int _ b]⟩ => (a, b)
  | _ => (0, 0)
theorem keys_perm {d : CDat} {T : List Pl} (h : CStand d T) {xs : List (Int × Int)} {vis : List MapEntry} (h1 : vis.Perm (d.L.map entP)) (h2 : vis.map (·.key) = xs.map Go.Proofs.Ytjgihniedhmpeaa.plV) : xs.Perm (T.map Pl.key) := by
  have h3 := (h1.map (·.key)).map unplV
  rw [h2, List.map_map, List.map_map, List.map_map] at h3
  have e1 : xs.map (unplV ∘ Go.Proofs.Ytjgihniedhmpeaa.plV) = xs := by
    conv => rhs; rw [← List.map_id xs]
    exact List.map_congr_left fun x _ => rfl
  have e2 : d.L.map (unplV ∘ (fun x : MapEntry => x.key) ∘ entP) = (d.L.map Pr.pl).map Pl.key := by
    rw [List.map_map]
    exact List.map_congr_left fun x _ => rfl
  rw [e1] at h3
  exact (h3.trans (by rw [← e2]; exact .refl _)).trans (h.perm.map Pl.key)
set_option maxHeartbeats 4000000 in
theorem order_ar (d : CDat) (T : List Pl) (h : CStand d T) (hT : T.length ≤ 100000) : ArC Try.prog 29 [ptrD d.cg] (cacheM d) fun r M => M = cacheM d ∧ r = plsR (T.map Pl.key) := by
  refine arOf [] Try.func29 rfl (by kernel_rfl) (Nat.le_of_ble_eq_true rfl) fun S => ?_
  have hh := cache_hdr (d := d)
  have hm := cache_map h.ok
  have hll := h.len
  have hbn : ∀ e ∈ d.L.map entP, e.born < d.clk := fun e he => by
    obtain ⟨p, hp, rfl⟩ := List.mem_map.1 he
    exact h.ok.bclk p hp
  have hnd : ((d.L.map entP).map (·.born)).Nodup := by
    rw [List.map_map]
    exact h.ok.born
  have hky : ∀ e ∈ d.L.map entP, ∃ x y, e.key = .agg #[.int .i64 x, .int .u32 y] := fun e he => by
    obtain ⟨p, hp, rfl⟩ := List.mem_map.1 he
    exact ⟨_, _, rfl⟩
  have hlen : (d.L.map entP).length ≤ 1000000 := by rw [List.length_map]; omega
  have hS : (T.map Pl.key).Pairwise fun x y => keyN x < keyN y := List.pairwise_map.2 h.sort.2
  conv => whnf
  (refine pv_nil rfl ?_; (conv => whnf); refine pv_field ttH rfl rfl rfl ?_; conv => whnf)
  (refine pv_loadA (i := 0) ttH rfl rfl rfl (hh) rfl ?_; conv => whnf)
  refine goIn [] Try.func35 rfl (by kernel_rfl) (Nat.le_of_ble_eq_true rfl) ?_
  conv => whnf
  refine goIn [] Try.func34 rfl (by kernel_rfl) (Nat.le_of_ble_eq_true rfl) ?_
  conv => whnf
  refine collect_vc (i := 0) (j := 1) (es := d.L.map entP) (clk := d.clk) rfl rfl hm hlen hbn hnd hky fun xs vis hv1 hv2 => ?_
  have hp := keys_perm h hv1 hv2
  have hxl : xs.length ≤ 1000000 := by have := hp.length_eq; rw [List.length_map] at this; omega
  have hxr : ∀ x ∈ xs, keyR x := fun x hx => h.keysR x (hp.mem_iff.1 hx)
  conv => whnf
  refine sortP_vc (id := 2) rfl hxr hxl hS hp.symm ?_
  conv => whnf
  exact .frz 2 _ _ _ _ _ rfl (.done _ _ rfl rfl ⟨rfl, rfl⟩)
end Go.Proofs.Ytjgihniedhmpeaa.V
