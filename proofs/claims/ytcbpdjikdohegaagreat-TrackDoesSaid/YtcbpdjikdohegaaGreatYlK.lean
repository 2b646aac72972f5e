/-
  Entries; rows of entries sorted; slots: all, one, new ones, by value. Conditions: slots stand right.
-/
import Derived.Test.YtcbpdjikdohegaaGreatYkK
import Derived.Test.YtcbpdjikdohegaaGreatK1
import Derived.Shelf.SlSortCmp.NoneTotal
namespace Go.Proofs.YtcbpdjikdohegaaGreat.V
open Go.RowKit Go.Shelf Go.Sort Go.Lib

theorem SR.same_H {E : Env} {s : St} {σ : Nat → Nat} {τ : Nat → Value} {a : Act} {w : World} (hs : SR E s σ τ a w) {H' : List (Nat × LO)} (hH : ∀ j, lget H' j = lget s.H j) : SR E ⟨s.F, H', s.nx, s.G⟩ σ τ a w := by
  have e1 : ∀ id b, owned H' σ τ id b = owned s.H σ τ id b := fun id b => by unfold owned; rw [hH]
  have e2 : ctxOf E H' s.nx σ τ w = ctxOf E s.H s.nx σ τ w := by unfold ctxOf; simp only [e1]
  refine ⟨⟨hs.heap.kept, hs.heap.few, fun id el l h => ?_, fun id α el e enc L h => ?_, fun i j b h1 h2 => hs.heap.apart i j b (e1 _ _ ▸ h1) (e1 _ _ ▸ h2), fun id o h => hs.heap.below id o (hH id ▸ h), hs.heap.slices, fun id o h => ?_⟩, hs.defers, hs.size, fun i d hd => ?_, fun G d v hx => ?_, hs.room⟩
  · show _ ∧ ∃ c, _ ∧ _ ∧ ∀ (j : Nat) d u, _ → _ → Rep (ctxOf E H' s.nx σ τ w) d u
    rw [e2]; exact hs.heap.cells id el l (hH id ▸ h)
  · show _ ∧ ∃ xs, _ ∧ _ ∧ ∀ (i : Nat) x (j : Nat) d u, _ → _ → _ → Rep (ctxOf E H' s.nx σ τ w).still d u
    rw [e2]; exact hs.heap.grow id α el e enc L (hH id ▸ h)
  · rw [e2]; exact hs.heap.obj id o (hH id ▸ h)
  · show Rep (ctxOf E H' s.nx σ τ w) _ _
    rw [e2]; exact hs.slots i d hd
  · obtain ⟨h1, h2, h3⟩ := hs.ghost G d v hx
    refine ⟨h1, h2, ?_⟩
    show Rep ((ctxOf E H' s.nx σ τ w).only G) d v
    rw [e2]; exact h3

structure En where
  f : Fl
  be : Int
  ph : Int
  at_ : Int
  px : Bool
  jn : Bool
  po : Int
  sh : Int
  fi : Int
deriving DecidableEq
def enV (x : En) : List Value := [.int .u32 x.f.src, .int .u32 x.f.dst, .int .u16 x.f.sp, .int .u16 x.f.dp, .int .u8 x.f.pr, .int .i64 x.be, .int .i64 x.ph, .int .i64 x.at_, .bool x.px, .bool x.jn, .int .u16 x.po, .int .u32 x.sh, .int .u32 x.fi]
def enD (x : En) : List D := flD x.f ++ [intD x.be, intD x.ph, intD x.at_, boolD x.px, boolD x.jn, .v (.int .u16 x.po), .v (.int .u32 x.sh), .v (.int .u32 x.fi)]
abbrev EnS := {x : En // FlOk x.f}
def en0 : En := ⟨fl0, 0, 0, 0, false, false, 0, 0, 0⟩
instance : Inhabited EnS := ⟨⟨en0, fl0_ok⟩⟩
theorem agg_v {C : Ctx} (l : List Value) : Rep C (.agg (l.map .v)) (.agg l.toArray) := by
  refine .agg (by simp) fun j d u hd hu => ?_
  rw [List.getElem?_map] at hd
  have hu : l[j]? = some u := by simpa using hu
  rw [hu] at hd
  simp only [Option.map_some, Option.some.injEq] at hd
  subst hd
  exact .v
theorem cmp_any {g : FuncId} {a b : List Value} {r : Int} (h : Fn Tryz.prog g [.agg (a.map .v), .agg (b.map .v)] fun d => d = intD r) (W : World) :
    Calls Tryz.prog g #[.agg a.toArray, .agg b.toArray] W fun e w' => e = .returned (.int .i64 r) ∧ ∃ q os', w' = grow (W.drewN q) os' := by
  refine (h.2 W (fun _ => False) [.agg a.toArray, .agg b.toArray] (fun _ h => h.elim) (reps_cons (agg_v a) (reps_cons (agg_v b) reps_nil))).mono fun e w' hh => ?_
  obtain ⟨d, v, rfl, rfl, hu, hr⟩ := hh
  rw [rep_v hr]
  exact ⟨rfl, under_grow hu⟩

theorem cmpI_lt (a b : Int) : decide (cmpI a b < 0) = decide (a < b) := by
  unfold cmpI
  cases h1 : decide (a < b) with
  | true => rfl
  | false => cases h2 : decide (b < a) <;> rfl
theorem swo_key {β : Type} (key : β → Int) : SWO (ltOf fun x y => cmpI (key x) (key y)) where
  irrefl x := by show decide (cmpI _ _ < 0) = false; rw [cmpI_lt]; simp
  trans x y z h1 h2 := by
    have h1 : decide (cmpI _ _ < 0) = true := h1
    have h2 : decide (cmpI _ _ < 0) = true := h2
    show decide (cmpI _ _ < 0) = true
    rw [cmpI_lt] at *
    exact decide_eq_true (Int.lt_trans (of_decide_eq_true h1) (of_decide_eq_true h2))
  ntrans x y z h1 h2 := by
    have h1 : decide (cmpI _ _ < 0) = false := h1
    have h2 : decide (cmpI _ _ < 0) = false := h2
    show decide (cmpI _ _ < 0) = false
    rw [cmpI_lt] at *
    exact decide_eq_false (by have h1 := of_decide_eq_false h1; have h2 := of_decide_eq_false h2; omega)

attribute [local irreducible] Fn FnN OpVC Ob ObS NewS
theorem sortE_vc {g : FuncId} {key : En → Int} (hen : ∀ args w, (callFunc g args).run Tryz.prog w = .ok (.enter g args) w) (hg : ∀ x y : EnS, Fn Tryz.prog g [.agg (enD x.val), .agg (enD y.val)] fun d => d = intD (cmpI (key x.val) (key y.val)))
    {s : St} {id : Nat} {L S : List En} {K : D → St → Prop} (hid : lget s.H id = some (.grow En 39 13 enD L)) (hL : ∀ x, x ∈ L → FlOk x.f) (hsz : L.length ≤ 1000000)
    (hS : S.Pairwise fun x y => key x < key y) (hp : S.Perm L) (h : K (.tup []) ⟨s.F, (id, .grow En 39 13 enD S) :: s.H, s.nx, s.G⟩) :
    CallVC Tryz.prog false 36 [.grow id, .fn g [] []] s K := by
  have hb : hasBody Tryz.prog 36 := ⟨_, Tryz.func36, rfl⟩
  obtain ⟨M, rfl⟩ := sub_list L hL
  rw [List.length_map] at hsz
  by_cases hpos : 0 < M.length
  · refine sort_vc sortEN (β := EnS) (val := Subtype.val) (fun x : EnS => enV x.val) (fun _ => rfl) (fun _ => rfl) (by decide) (fun x v hv => by simp [enV] at hv; rcases hv with rfl | rfl | rfl | rfl | rfl | rfl | rfl | rfl | rfl | rfl | rfl | rfl | rfl <;> rfl) Tryz.isAgg39 Tryz.sizeOf39 (fun x y : EnS => cmpI (key x.val) (key y.val)) (swo_key fun x : EnS => key x.val) g hen (fun x y W => cmp_any (hg x y) W) hb hid hpos (by omega) fun M' hm hs => ?_
    rw [show M'.map Subtype.val = S from sorted_one (key := key) hS ((hm.map _).trans hp.symm) fun i j x y hij hx hy => by
      obtain ⟨x', hx', rfl⟩ := map_get hx
      obtain ⟨y', hy', rfl⟩ := map_get hy
      have := hs i j x' y' hij hx' hy'
      have h2 := cmpI_lt (key y'.val) (key x'.val)
      rw [decide_eq_false (by omega)] at h2
      have := of_decide_eq_false h2.symm
      omega]
    exact h
  · have hM : M = [] := List.eq_nil_of_length_eq_zero (by omega)
    subst hM
    obtain rfl := hp.eq_nil
    refine ⟨hb, fun E σ τ a w args' hs hr => ?_⟩
    obtain ⟨hal, har⟩ := hr
    obtain ⟨va, vb, rfl⟩ : ∃ va vb, args' = [va, vb] := by
      match args', hal with
      | [x, y], _ => exact ⟨x, y, rfl⟩
    have hav : va = τ id := by
      have := har 0 _ va rfl rfl
      cases this with
      | grow hg => exact hg.2
    obtain ⟨_, xs, ⟨_, hown⟩, _⟩ := hs.heap.grow id _ _ _ _ _ hid
    obtain ⟨p, c, hv⟩ : ∃ p c, va = .slice p 0 c := by
      rcases hown with ⟨h1, _⟩ | ⟨g, cap, cur, h1, _⟩
      · exact ⟨_, _, hav.trans h1⟩
      · exact ⟨_, _, hav.trans h1⟩
    subst hv
    refine (AnyF.slices_SortFunc_none sortEN p c vb w).mono fun e w' hh => ?_
    obtain ⟨rfl, rfl⟩ := hh
    refine ⟨_, _, σ, τ, _, h, rfl, ?_, .tup rfl (fun j d u hd hu => by cases hd), fun hg => by cases hg⟩
    refine hs.same_H fun j => ?_
    by_cases hj : j = id
    · subst hj; rw [lget_same, hid]; rfl
    · rw [lget_ne _ _ hj]
end Go.Proofs.YtcbpdjikdohegaaGreat.V
