/-
  Contracts with a row of one's own that is turned, and handed back: what it holds before and behind. Conditions: the table of types says what the program's says; functions are entered; plans are ones.
-/
import Derived.Test.YtcbpdjikdohegaaK1
namespace Go.Proofs.Ytcbpdjikdohegaa.V
open Go.RowKit

/-- A value is a row of one's own that holds these. -/
def RowAt (w : World) (B : Nat → Prop) (α : Type) (el e : Nat) (enc : α → List D) (L : List α) (v : Value) : Prop :=
  (∃ p l c, v = .slice p l c) ∧ (∀ (i : Nat) x, L[i]? = some x → (enc x).length = e) ∧ ∃ xs, w.ownsRow 0 el e v L.length xs ∧ ∀ (i : Nat) x (j : Nat) d u, L[i]? = some x → (enc x)[j]? = some d → xs[i * e + j]? = some u → Rep (baseCtx w B) d u
/-- Of what was there, one block alone may turn (or none). -/
structure TurnedO (ob : Option Nat) (w w' : World) : Prop where
  os : w'.os = w.os
  tape : w'.tape = w.tape
  output : w'.output = w.output
  size : w.heap.size ≤ w'.heap.size
  block : ∀ k, k < w.heap.size → ob ≠ some k → w'.heap[k]? = w.heap[k]?
  drawn : w.drawn ≤ w'.drawn
/-- A contract with a row of one's own (the first argument), which is handed back: it holds L, then such a row. -/
def RowFn (P : Program) (f : FuncId) {α : Type} (el e : Nat) (enc : α → List D) (L : List α) (rest : List D) (Q : List α → Prop) : Prop :=
  hasBody P f ∧ ∀ (w : World) (B : Nat → Prop) (v : Value) (args' : List Value), (∀ k, B k → k < w.heap.size ∧ v.ownBlock ≠ some k) → RowAt w B α el e enc L v → reps (baseCtx w B) rest args' →
    Calls P f (v :: args').toArray w fun e1 w' => ∃ v' L', Q L' ∧ e1 = .returned v' ∧ TurnedO v.ownBlock w w' ∧ (∀ g, v'.ownBlock = some g → v.ownBlock = some g ∨ w.heap.size ≤ g) ∧ RowAt w' (fun _ => True) α el e enc L' v'

/-- A row of one's own, or its beginning, as it is at the end. -/
def rowEnd {α : Type} (el e : Nat) (enc : α → List D) (s : St) (d : D) (Q : List α → Prop) : Prop := match d with
  | .grow id => match lget s.H id with
    | some (.grow _ el' e' enc' L') => el' = el ∧ e' = e ∧ ∃ L2 : List α, L'.map enc' = L2.map enc ∧ Q L2
    | _ => False
  | .cut id n => match lget s.H id with
    | some (.grow _ el' e' enc' L') => el' = el ∧ e' = e ∧ n ≤ L'.length ∧ ∃ L2 : List α, (L'.take n).map enc' = L2.map enc ∧ Q L2
    | _ => False
  | .v (.slice none 0 0) => Q []
  | _ => False

section
variable {P : Program} {tt : TT} {pl : Plans} {s : St} {K : D → St → Prop} {f : FuncId}

theorem row_cut {E : Env} {H : List (Nat × LO)} {nx : Nat} {σ : Nat → Nat} {τ : Nat → Value} {w1 : World} (hs : HR E H nx σ τ w1) {id : Nat} {β α : Type} {el e : Nat} {enc' : β → List D} {enc : α → List D} {L' : List β} {L2 : List α} {n : Nat} (hid : lget H id = some (.grow β el e enc' L'))
    (hn : n ≤ L'.length) (hm : (L'.take n).map enc' = L2.map enc) {p : Option Addr} {m c : Nat} (hv : τ id = .slice p m c) : RowAt w1 (fun _ => True) α el e enc L2 (.slice p n c) := by
  obtain ⟨_, xs, ⟨hxl, hown⟩, hlen, hrep⟩ := hs.grow id _ _ _ _ _ hid
  have hL2 : L2.length = n := by
    have := congrArg List.length hm
    simp only [List.length_map, List.length_take] at this
    omega
  have hget : ∀ (i : Nat) x, L2[i]? = some x → ∃ y, L'[i]? = some y ∧ enc' y = enc x ∧ i < n := by
    intro i x hx
    have hi := (List.getElem?_eq_some_iff.1 hx).1
    have h1 : ((L'.take n).map enc')[i]? = some (enc x) := by rw [hm, List.getElem?_map, hx]; rfl
    rw [List.getElem?_map, List.getElem?_take_of_lt (by omega)] at h1
    cases hq : L'[i]? with
    | none => rw [hq] at h1; cases h1
    | some y =>
      rw [hq] at h1
      simp only [Option.map_some, Option.some.injEq] at h1
      exact ⟨y, rfl, h1, by omega⟩
  have hle : (ctxOf E H nx σ τ w1).still.Le (baseCtx w1 (fun _ => True)) := ⟨fun _ _ _ h => h, fun _ _ => trivial, fun _ _ _ h => h, fun _ _ h => h, fun _ _ _ h => h⟩
  have hne : n * e ≤ L'.length * e := Nat.mul_le_mul_right e hn
  refine ⟨⟨_, _, _, rfl⟩, fun i x hx => ?_, xs.take (n * e), ⟨by rw [List.length_take, hxl, hL2]; omega, ?_⟩, fun i x j d u hx hd hu => ?_⟩
  · obtain ⟨y, h1, h2, _⟩ := hget i x hx
    rw [← h2]; exact hlen i y h1
  · rw [hL2]
    rcases hown with ⟨h1, h2⟩ | ⟨g, cap, cur, h1, h2, h3, h4, h5, h6, h7⟩
    · rw [hv] at h1
      injection h1 with h1 h8 h9
      subst h1 h9
      exact .inl ⟨by rw [show n = 0 by omega], by omega⟩
    · rw [hv] at h1
      injection h1 with h1 h8 h9
      subst h1 h9
      refine .inr ⟨g, _, cur, rfl, h2, h3, by omega, h5, h6, ?_⟩
      rw [← h7, List.take_take]
      congr 1
      omega
  · obtain ⟨y, h1, h2, hi⟩ := hget i x hx
    have hj : j < e := by have := (List.getElem?_eq_some_iff.1 hd).1; rw [← h2, hlen i y h1] at this; exact this
    have hb : i * e + e ≤ n * e := by
      have := Nat.mul_le_mul_right e (show i + 1 ≤ n from hi)
      rw [Nat.succ_mul] at this; exact this
    rw [List.getElem?_take_of_lt (by omega)] at hu
    rw [← h2] at hd
    exact (hrep i y j d u h1 hd hu).mono hle

/-- A contract with a row of one's own, from the body. -/
theorem row_of_wpc (htt : ttOk P tt) (hb : entersAll P = true) (hm : P.follows .mixedOrders = true) {fn : Func} {c : Code} {α : Type} {el e : Nat} {enc : α → List D} {L : List α} {rest : List D} {Q : List α → Prop} (hfn : P.funcs[f]? = some fn) (hc : fn.body = some c) (hok : codeOk pl fn.ntmps c = true)
    (hn : rest.length + 1 ≤ fn.ntmps) (h : wpc P tt pl c ⟨enumD (.grow 0 :: rest) 0, [(0, .grow α el e enc L)], 1, ([], 0)⟩ fun e1 s' => endK e1 (resK tt s' fn.results.toList fun l => seeD (oneD l) fun d => rowEnd el e enc s' d Q)) : RowFn P f el e enc L rest Q := by
  refine ⟨⟨fn, hfn, by rw [hc]; rfl⟩, fun w B v args' hB hrow hr => ?_⟩
  obtain ⟨hsl, hlen, xs, hown, hrep⟩ := hrow
  let E : Env := ⟨w, B, fun k => v.ownBlock = some k, fn.ntmps, fun _ _ _ => False⟩
  let τ0 : Nat → Value := fun _ => v
  have howned : ∀ id k, owned [(0, .grow α el e enc L)] (fun _ => 0) τ0 id k → id = 0 ∧ v.ownBlock = some k := by
    intro id k ho
    by_cases hi : id = 0
    · subst hi
      rcases ho with ⟨_, _, h1, h2⟩ | ⟨_, _, _, _, _, h1, h2⟩ | ⟨_, h1, h2⟩
      · rw [lget_same] at h1; cases h1
      · exact ⟨rfl, h2⟩
      · rw [lget_same] at h1; cases h1
    · rcases ho with ⟨_, _, h1, h2⟩ | ⟨_, _, _, _, _, h1, h2⟩ | ⟨_, h1, h2⟩ <;> (rw [lget_ne _ _ hi] at h1; cases h1)
  have hle0 : (baseCtx w B).Le (ctxOf E [(0, .grow α el e enc L)] 1 (fun _ => 0) τ0 w).still :=
    ⟨fun _ _ _ h => h, fun k hk => ⟨.inl hk, (hB k hk).1, fun id ho => (hB k hk).2 (howned id k ho).2⟩, fun _ _ _ h => h.elim, fun _ _ h => h.elim, fun _ _ _ h => h.elim⟩
  have hle : (baseCtx w B).Le (ctxOf E [(0, .grow α el e enc L)] 1 (fun _ => 0) τ0 w) := hle0.trans (Ctx.still_le _)
  have hr1 : reps (ctxOf E [(0, .grow α el e enc L)] 1 (fun _ => 0) τ0 w) (.grow 0 :: rest) (v :: args') :=
    reps_cons (.grow ⟨Nat.zero_lt_one, rfl⟩) ⟨hr.1, fun j d u hd hu => (hr.2 j d u hd hu).mono hle⟩
  have hlen2 : args'.length + 1 ≤ fn.ntmps := by rw [hr.1]; exact hn
  have hs : SR E ⟨enumD (.grow 0 :: rest) 0, [(0, .grow α el e enc L)], 1, ([], 0)⟩ (fun _ => 0) τ0 { tmps := (v :: args').toArray ++ Array.replicate (fn.ntmps - (v :: args').toArray.size) undef, defers := [] } w := by
    refine ⟨⟨⟨rfl, rfl, rfl, Nat.le_refl _, fun _ _ _ => rfl, Nat.le_refl _⟩, fun k hk => ⟨fun h => (hB k hk).2 h, (hB k hk).1⟩, fun id el' l h => ?_, fun id α' el' e' enc' L' h => ?_, fun i j k h1 h2 => ?_, fun id o h => ?_, fun _ => hsl, fun id o h => by
      by_cases hi : id = 0
      · subst hi; rw [lget_same] at h; cases h
      · rw [lget_ne _ _ hi] at h; cases h⟩, rfl, ?_, fun i d hd => enter_slots hr1 fn.ntmps i d hd, fun _ _ _ h => h.elim, Nat.zero_le _⟩
    · by_cases hi : id = 0
      · subst hi; rw [lget_same] at h; cases h
      · rw [lget_ne _ _ hi] at h; cases h
    · by_cases hi : id = 0
      · subst hi
        rw [lget_same] at h
        injection h with h; injection h with q1 q2 q3 q4 q5
        subst q1 q2 q3
        have q4 := eq_of_heq q4
        have q5 := eq_of_heq q5
        subst q4 q5
        exact ⟨fun g hg => .inl hg, xs, hown, hlen, fun i x j d u hx hd hu => (hrep i x j d u hx hd hu).mono hle0⟩
      · rw [lget_ne _ _ hi] at h; cases h
    · rw [(howned i k h1).1, (howned j k h2).1]
    · by_cases hi : id = 0
      · subst hi; exact Nat.zero_lt_one
      · rw [lget_ne _ _ hi] at h; cases h
    · simp [E]; omega
  refine calls_of_wp hfn hc (wp_mono (wpc_sound (E := E) htt hb hm c hok _ _ _ _ _ w h hs) fun e1 a1 w1 hh => ?_)
  obtain ⟨x, s1, σ1, τ1, rfl, h1, h2⟩ := hh
  have hturn : TurnedO v.ownBlock w w1 := ⟨h2.heap.kept.os, h2.heap.kept.tape, h2.heap.kept.output, h2.heap.kept.size, fun k hk hne => h2.heap.kept.block k hk hne, h2.heap.kept.drawn⟩
  have fin : resK tt s1 fn.results.toList (fun l => seeD (oneD l) fun d => rowEnd el e enc s1 d Q) →
      a1.defers = [] ∧ ∃ v0, (results fn a1.tmps).run P w1 = .ok v0 w1 ∧ ∃ v' L', Q L' ∧ Ending.returned v0 = .returned v' ∧ TurnedO v.ownBlock w w1 ∧ (∀ g, v'.ownBlock = some g → v.ownBlock = some g ∨ w.heap.size ≤ g) ∧ RowAt w1 (fun _ => True) α el e enc L' v' := by
    intro hres
    obtain ⟨l, vs, h3, h4, h5⟩ := resK_run htt h2 _ _ hres
    rw [seeD_eq] at h3
    have hone := oneD_rep h4
    refine ⟨h2.defers, oneV vs, results_at h5, oneV vs, ?_⟩
    generalize oneD l = d at *
    generalize oneV vs = u at *
    unfold rowEnd at h3
    split at h3
    · rename_i id
      split at h3
      · rename_i β el' e' enc' L' hg
        obtain ⟨rfl, rfl, L2, h6, h7⟩ := h3
        have hv : u = τ1 id := by
          cases hone with
          | grow hh => exact hh.2
        obtain ⟨p, m, c2, hsl1⟩ := h2.heap.slices id
        have hm1 : m = L'.length := by
          obtain ⟨_, _, ⟨_, hown1⟩, _⟩ := h2.heap.grow id _ _ _ _ _ hg
          rcases hown1 with ⟨q1, q2⟩ | ⟨g, cap, cur, q1, _⟩
          · rw [hsl1] at q1; injection q1 with q1 q3 q4; omega
          · rw [hsl1] at q1; injection q1 with q1 q3 q4
        have := row_cut (enc := enc) (L2 := L2) (n := L'.length) h2.heap hg (Nat.le_refl _) (by rw [List.take_length]; exact h6) hsl1
        rw [hm1] at hsl1
        rw [← hsl1, ← hv] at this
        refine ⟨L2, h7, rfl, hturn, fun g hg2 => ?_, this⟩
        rw [hv] at hg2
        exact (h2.heap.grow id _ _ _ _ _ hg).1 g hg2
      · exact h3.elim
    · rename_i id n
      split at h3
      · rename_i β el' e' enc' L' hg
        obtain ⟨rfl, rfl, hnl, L2, h6, h7⟩ := h3
        cases hone with
        | cut hh hnm =>
          obtain ⟨_, hh⟩ := hh
          have := row_cut (enc := enc) (L2 := L2) h2.heap hg hnl h6 hh.symm
          refine ⟨L2, h7, rfl, hturn, fun g hg2 => ?_, this⟩
          have := (h2.heap.grow id _ _ _ _ _ hg).1 g
          rw [← hh] at this
          refine this ?_
          rename_i pp mm cc
          cases pp with
          | none => cases hg2
          | some a => exact hg2
      · exact h3.elim
    · cases hone with
      | v => exact ⟨[], h3, rfl, hturn, (fun g hg => by cases hg), ⟨_, _, _, rfl⟩, (fun i x h => by cases h), [], ⟨by simp, .inl ⟨rfl, rfl⟩⟩, fun i x j d u h => by cases h⟩
    · exact h3.elim
  cases x with
  | normal => exact fin h1
  | ret => exact fin h1
  | exit i => exact h1.elim

theorem owned_off {H : List (Nat × LO)} {σ : Nat → Nat} {τ : Nat → Value} {i id b : Nat} (h : owned ((i, .dead) :: H) σ τ id b) : id ≠ i ∧ owned H σ τ id b := by
  by_cases hi : id = i
  · subst hi
    rcases h with ⟨el, l, h1, _⟩ | ⟨α, el, e, enc, L, h1, _⟩ | ⟨o, h1, _⟩ <;> (rw [lget_same] at h1; cases h1)
  · refine ⟨hi, ?_⟩
    rcases h with ⟨el, l, h1, h2⟩ | ⟨α, el, e, enc, L, h1, h2⟩ | ⟨o, h1, h2⟩
    rotate_left 2
    · rw [lget_ne _ _ hi] at h1; exact .inr (.inr ⟨o, h1, h2⟩)
    · rw [lget_ne _ _ hi] at h1; exact .inl ⟨el, l, h1, h2⟩
    · rw [lget_ne _ _ hi] at h1; exact .inr (.inl ⟨α, el, e, enc, L, h1, h2⟩)

def setV (τ : Nat → Value) (i : Nat) (v : Value) : Nat → Value := fun j => if j = i then v else τ j

/-- A call by a contract with a row of one's own: it bears a new number behind it; other places of one's own are looked at as they are. -/
theorem CallVC.row {α : Type} {el e : Nat} {enc : α → List D} {L : List α} {rest rest0 : List D} {Q : List α → Prop} {i : Nat} (hf : RowFn P f el e enc L rest0 Q) (hid : lget s.H i = some (.grow α el e enc L)) (he : rest.map (snapD 6 ((i, .dead) :: s.H)) = rest0) (hfl : ∀ x, (enc x).all (flatD 1) = true)
    (h : ∀ L', Q L' → K (.grow s.nx) ⟨s.F, (s.nx, .grow α el e enc L') :: (i, .dead) :: s.H, s.nx + 1, s.G⟩) : CallVC P false f (.grow i :: rest) s K := by
  subst he
  refine ⟨hf.1, fun E σ τ a w args0 hs hr => ?_⟩
  obtain ⟨hmine, xs, hown, hlen, hrep⟩ := hs.heap.grow i α el e enc L hid
  match args0, hr with
  | [], hr => have := hr.1; simp at this
  | v0 :: args', hr =>
  have hv0 : v0 = τ i := by
    have := hr.2 0 (.grow i) v0 rfl rfl
    cases this with
    | grow hh => exact hh.2
  subst hv0
  have hown_i : ∀ g, (τ i).ownBlock = some g → owned s.H σ τ i g := fun g hg => .inr (.inl ⟨_, _, _, _, _, hid, hg⟩)
  -- what is looked at: all but that row
  let K2 : Nat → Prop := fun b => ∃ id, id ≠ i ∧ owned s.H σ τ id b
  let E2 : Env := ⟨w, (ctxOf E s.H s.nx σ τ w).ok, K2, 0, fun _ _ _ => False⟩
  let B : Nat → Prop := fun b => ((E2.B b ∨ E2.K b) ∨ E2.w.heap.size ≤ b) ∧ b < w.heap.size
  have hle2 : (ctxOf E s.H s.nx σ τ w).Le (ctxOf E2 ((i, .dead) :: s.H) s.nx σ τ w) :=
    ⟨fun _ _ _ h => h, fun b hb => ⟨.inl hb, hb.2.1, fun id ho => hb.2.2 id (owned_off ho).2⟩, fun _ _ _ h => h, fun _ _ h => h, fun _ _ _ h => h⟩
  have hk2 : ∀ {id b}, owned ((i, .dead) :: s.H) σ τ id b → K2 b := fun ho => ⟨_, (owned_off ho).1, (owned_off ho).2⟩
  have hHR2 : HR E2 ((i, .dead) :: s.H) s.nx σ τ w := by
    refine ⟨⟨rfl, rfl, rfl, Nat.le_refl _, fun _ _ _ => rfl, Nat.le_refl _⟩, fun b hb => ⟨fun ⟨id, _, ho⟩ => hb.2.2 id ho, hb.2.1⟩, fun id el' l h => ?_, fun id α' el' e' enc' L' h => ?_, fun p q b h1 h2 => hs.heap.apart p q b (owned_off h1).2 (owned_off h2).2, fun id o h => ?_, hs.heap.slices, fun id o h => ?_⟩
    · have ho : owned ((i, .dead) :: s.H) σ τ id (σ id) := .inl ⟨_, _, h, rfl⟩
      have hi : id ≠ i := (owned_off ho).1
      rw [lget_ne _ _ hi] at h
      obtain ⟨_, c, h2, h3, h4⟩ := hs.heap.cells id el' l h
      exact ⟨.inl (hk2 ho), c, h2, h3, fun j d u hd hu => (h4 j d u hd hu).mono hle2⟩
    · have hi : id ≠ i := by rintro rfl; rw [lget_same] at h; cases h
      have h0 := h
      rw [lget_ne _ _ hi] at h
      obtain ⟨_, xs', h2, h3, h4⟩ := hs.heap.grow id α' el' e' enc' L' h
      exact ⟨fun g hg => .inl (hk2 (.inr (.inl ⟨_, _, _, _, _, h0, hg⟩))), xs', h2, h3, fun p x j d u hx hd hu => (h4 p x j d u hx hd hu).mono hle2.still⟩
    · by_cases hi : id = i
      · subst hi; exact hs.heap.below id _ hid
      · rw [lget_ne _ _ hi] at h; exact hs.heap.below id o h
    · have h0 := h
      have hi : id ≠ i := by rintro rfl; rw [lget_same] at h; cases h
      rw [lget_ne _ _ hi] at h
      exact ⟨fun k hk => ⟨.inl (hk2 (.inr (.inr ⟨_, h0, hk⟩))), ((hs.heap.obj id o h).1 k hk).2⟩, OA.at_mono (hs.heap.obj id o h).2 (fun _ _ => rfl) (Nat.le_refl _) hle2.still⟩
  have hB : ∀ k, B k → k < w.heap.size ∧ (τ i).ownBlock ≠ some k := by
    intro k hk
    refine ⟨hk.2, fun hg => ?_⟩
    rcases hk.1 with (hk1 | ⟨id, h1, h2⟩) | hk1
    · exact hk1.2.2 i (hown_i k hg)
    · exact h1 (hs.heap.apart id i k h2 (hown_i k hg))
    · have : w.heap.size ≤ k := hk1
      have := hk.2
      omega
  have hrow : RowAt w B α el e enc L (τ i) := by
    refine ⟨hs.heap.slices i, hlen, xs, hown, fun p x j d u hx hd hu => (hrep p x j d u hx hd hu).mono ⟨fun _ _ _ h => h, fun b hb => ⟨.inl (.inl hb), hb.2.1⟩, fun _ _ _ h => h, fun _ _ h => h, fun _ _ _ h => h⟩⟩
  have hrest : reps (baseCtx w B) (rest.map (snapD 6 ((i, .dead) :: s.H))) args' := by
    refine ⟨by have := hr.1; simp at this; simp [this], fun j d u hd hu => ?_⟩
    rw [List.getElem?_map] at hd
    cases hq : rest[j]? with
    | none => rw [hq] at hd; cases hd
    | some x =>
      rw [hq] at hd
      simp only [Option.map_some, Option.some.injEq] at hd
      subst hd
      exact snap_rep (s := ⟨[], (i, .dead) :: s.H, s.nx, ([], 0)⟩) hHR2 6 x u ((hr.2 (j + 1) x u (by simpa using hq) (by simpa using hu)).mono hle2)
  refine (hf.2 w B (τ i) args' hB hrow hrest).mono fun e1 w' hh => ?_
  obtain ⟨v', L', hq, rfl, ht, hnb, hrow'⟩ := hh
  obtain ⟨hsl', hlen', xs', hown', hrep'⟩ := hrow'
  have hblk : ∀ k, k < w.heap.size → ¬ owned s.H σ τ i k → w'.heap[k]? = w.heap[k]? := fun k hk hno => ht.block k hk fun hg => hno (hown_i k hg)
  have howned' : ∀ id b, owned ((s.nx, .grow α el e enc L') :: (i, .dead) :: s.H) σ (setV τ s.nx v') id b → (id = s.nx ∧ v'.ownBlock = some b) ∨ (id ≠ s.nx ∧ id ≠ i ∧ owned s.H σ τ id b) := by
    intro id b ho
    by_cases hi : id = s.nx
    · subst hi
      refine .inl ⟨rfl, ?_⟩
      rcases ho with ⟨el, l, h1, _⟩ | ⟨α, el, e, enc, L, h1, h2⟩ | ⟨o, h1, _⟩
      · rw [lget_same] at h1; cases h1
      · simpa [setV] using h2
      · rw [lget_same] at h1; cases h1
    · have ho2 : owned ((i, .dead) :: s.H) σ τ id b := by
        rcases ho with ⟨el, l, h1, h2⟩ | ⟨α, el, e, enc, L, h1, h2⟩ | ⟨o, h1, h2⟩
        · rw [lget_ne _ _ hi] at h1; exact .inl ⟨_, _, h1, h2⟩
        · rw [lget_ne _ _ hi] at h1; exact .inr (.inl ⟨_, _, _, _, _, h1, by simpa [setV, hi] using h2⟩)
        · rw [lget_ne _ _ hi] at h1; exact .inr (.inr ⟨_, h1, h2⟩)
      exact .inr ⟨hi, owned_off ho2⟩
  have hgood : ∀ b, (ctxOf E s.H s.nx σ τ w).ok b → (ctxOf E ((s.nx, .grow α el e enc L') :: (i, .dead) :: s.H) (s.nx + 1) σ (setV τ s.nx v') w').ok b := fun b hb => by
    refine ⟨hb.1, Nat.lt_of_lt_of_le hb.2.1 ht.size, fun id ho => ?_⟩
    rcases howned' id b ho with ⟨_, h2⟩ | ⟨_, _, h2⟩
    · rcases hnb b h2 with h3 | h3
      · exact hb.2.2 i (hown_i b h3)
      · have : b < w.heap.size := hb.2.1
        omega
    · exact hb.2.2 id h2
  have hle : (ctxOf E s.H s.nx σ τ w).Le (ctxOf E ((s.nx, .grow α el e enc L') :: (i, .dead) :: s.H) (s.nx + 1) σ (setV τ s.nx v') w') := by
    refine ⟨fun b of hb hc => (hblk b hb.2.1 (hb.2.2 i)).trans hc, hgood, fun id off v hv => ⟨Nat.lt_succ_of_lt hv.1, hv.2⟩, fun id v hv => ⟨Nat.lt_succ_of_lt hv.1, ?_⟩, fun id off v hv => ⟨Nat.lt_succ_of_lt hv.1, ?_⟩⟩
    · have : id ≠ s.nx := by have := hv.1; omega
      simpa [setV, this] using hv.2
    · have : id ≠ s.nx := by have := hv.1; omega
      simpa [setV, this] using hv.2
  have hother : ∀ id b, id ≠ i → owned s.H σ τ id b → w'.heap[b]? = w.heap[b]? := fun id b hi ho => hblk b (owned_lt hs.heap ho) fun ho2 => hi (hs.heap.apart id i b ho ho2)
  refine ⟨.grow s.nx, _, σ, setV τ s.nx v', v', h L' hq, rfl, ⟨⟨⟨ht.os.trans hs.heap.kept.os, ht.tape.trans hs.heap.kept.tape, ht.output.trans hs.heap.kept.output, Nat.le_trans hs.heap.kept.size ht.size, fun k hk hnk => ?_, Nat.le_trans hs.heap.kept.drawn ht.drawn⟩, hs.heap.few, fun id el' l hl => ?_, fun id α' el' e' enc' L2 hl => ?_, fun p q b h1 h2 => ?_, fun id o hl => ?_, fun id => ?_, fun id o hl => ?_⟩, hs.defers, hs.size, fun j d hd => (hs.slots j d hd).mono hle, hs.ghost_le rfl hle, Nat.le_succ_of_le hs.room⟩, .grow ⟨Nat.lt_succ_self _, by simp [setV]⟩, fun hg => by cases hg⟩
  · refine (hblk k (Nat.lt_of_lt_of_le hk hs.heap.kept.size) fun ho => ?_).trans (hs.heap.kept.block k hk hnk)
    rcases ho with ⟨_, _, h1, _⟩ | ⟨_, _, _, _, _, h1, h2⟩ | ⟨_, h1, _⟩
    · rw [hid] at h1; cases h1
    · rcases hmine k h2 with h3 | h3
      · exact hnk h3
      · omega
    · rw [hid] at h1; cases h1
  · have hi : id ≠ s.nx := by rintro rfl; rw [lget_same] at hl; cases hl
    rw [lget_ne _ _ hi] at hl
    have hi2 : id ≠ i := by rintro rfl; rw [lget_same] at hl; cases hl
    rw [lget_ne _ _ hi2] at hl
    obtain ⟨h1, c, h2, h3, h4⟩ := hs.heap.cells id el' l hl
    exact ⟨h1, c, (hother id _ hi2 (.inl ⟨_, _, hl, rfl⟩)).trans h2, h3, fun j d u hd hu => (h4 j d u hd hu).mono hle⟩
  · by_cases hi : id = s.nx
    · subst hi
      rw [lget_same] at hl
      injection hl with hl; injection hl with q1 q2 q3 q4 q5
      subst q1 q2 q3
      have q4 := eq_of_heq q4
      have q5 := eq_of_heq q5
      subst q4 q5
      have hvv : setV τ s.nx v' s.nx = v' := by simp [setV]
      rw [hvv]
      refine ⟨fun g hg => ?_, xs', hown', hlen', fun p x j d u hx hd hu => flat_rep 1 d u (all_at (hfl x) hd) (hrep' p x j d u hx hd hu)⟩
      rcases hnb g hg with h3 | h3
      · exact hmine g h3
      · exact .inr (Nat.le_trans hs.heap.kept.size h3)
    · rw [lget_ne _ _ hi] at hl
      have hi2 : id ≠ i := by rintro rfl; rw [lget_same] at hl; cases hl
      rw [lget_ne _ _ hi2] at hl
      obtain ⟨h1, xs2, ⟨h2, h2'⟩, h3, h4⟩ := hs.heap.grow id α' el' e' enc' L2 hl
      have hvv : setV τ s.nx v' id = τ id := by simp [setV, hi]
      rw [hvv]
      refine ⟨h1, xs2, ⟨h2, ?_⟩, h3, fun p x j d u hx hd hu => (h4 p x j d u hx hd hu).mono hle.still⟩
      rcases h2' with h2' | ⟨g, cap, cur, q1, q2, q3, q4⟩
      · exact .inl h2'
      · exact .inr ⟨g, cap, cur, q1, q2, (hother id g hi2 (.inr (.inl ⟨_, _, _, _, _, hl, by rw [q1]; rfl⟩))).trans q3, q4⟩
  · rcases howned' p b h1 with ⟨h3, h4⟩ | ⟨h3, h4, h5⟩ <;> rcases howned' q b h2 with ⟨h6, h7⟩ | ⟨h6, h7, h8⟩
    · rw [h3, h6]
    · rcases hnb b h4 with h9 | h9
      · exact absurd (hs.heap.apart q i b h8 (hown_i b h9)) h7
      · have := owned_lt hs.heap h8; omega
    · rcases hnb b h7 with h9 | h9
      · exact absurd (hs.heap.apart p i b h5 (hown_i b h9)) h4
      · have := owned_lt hs.heap h5; omega
    · exact hs.heap.apart p q b h5 h8
  · by_cases hi : id = s.nx
    · subst hi; exact Nat.lt_succ_self _
    · rw [lget_ne _ _ hi] at hl
      by_cases hi2 : id = i
      · subst hi2; exact Nat.lt_succ_of_lt (hs.heap.below id _ hid)
      · rw [lget_ne _ _ hi2] at hl; exact Nat.lt_succ_of_lt (hs.heap.below id o hl)
  · by_cases hi : id = s.nx
    · subst hi; simpa [setV] using hsl'
    · simpa [setV, hi] using hs.heap.slices id
  · have hi : id ≠ s.nx := by rintro rfl; rw [lget_same] at hl; cases hl
    rw [lget_ne _ _ hi] at hl
    have hi2 : id ≠ i := by rintro rfl; rw [lget_same] at hl; cases hl
    rw [lget_ne _ _ hi2] at hl
    obtain ⟨h1, h2⟩ := hs.heap.obj id o hl
    exact ⟨fun k hk => ⟨(h1 k hk).1, Nat.lt_of_lt_of_le (h1 k hk).2 ht.size⟩, OA.at_mono h2 (fun k hk => hother id k hi2 (.inr (.inr ⟨_, hl, hk⟩))) ht.size hle.still⟩
end
end Go.Proofs.Ytcbpdjikdohegaa.V
