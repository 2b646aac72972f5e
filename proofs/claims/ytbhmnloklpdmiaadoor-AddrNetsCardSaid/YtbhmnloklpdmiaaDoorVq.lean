/-
  Contracts with an object of one's own that is turned: its cells before and behind. Conditions: the table of types says what the program's says; functions are entered; plans are ones.
-/
import Derived.Test.YtbhmnloklpdmiaaDoorVo
namespace Go.Proofs.YtbhmnloklpdmiaaDoor.V
open Go.RowKit

/-- Of what was there, one block alone may turn. -/
structure Turned (b : Nat) (w w' : World) : Prop where
  os : w'.os = w.os
  tape : w'.tape = w.tape
  output : w'.output = w.output
  size : w.heap.size ≤ w'.heap.size
  block : ∀ k, k < w.heap.size → k ≠ b → w'.heap[k]? = w.heap[k]?
  drawn : w.drawn ≤ w'.drawn

def newB (B : Nat → Prop) (w w' : World) : Nat → Prop := fun b => B b ∨ (w.heap.size ≤ b ∧ b < w'.heap.size)

/-- A contract with an object (the first argument points to it): its cells are X, then X'. -/
def Ob (P : Program) (f : FuncId) (el : TypeId) (X rest : List D) (Q : D → List D → Prop) : Prop :=
  hasBody P f ∧ ∀ (w : World) (B : Nat → Prop) (b : Nat) (c : Array Value) (args' : List Value), (∀ k, B k → k < w.heap.size ∧ k ≠ b) → w.heap[b]? = some (.cells c el (0, 0)) → reps (baseCtx w B) X c.toList → reps (baseCtx w B) rest args' →
    Calls P f (Value.pointer (some ⟨b, 0, none⟩) :: args').toArray w fun e w' => ∃ d v X' c', Q d X' ∧ e = .returned v ∧ Turned b w w' ∧ w'.heap[b]? = some (.cells c' el (0, 0)) ∧ reps (baseCtx w' (newB B w w')) X' c'.toList ∧ Rep (baseCtx w' (newB B w w')) d v

theorem Ob.mono {P : Program} {f : FuncId} {el : TypeId} {X rest : List D} {Q Q' : D → List D → Prop} (h : Ob P f el X rest Q) (hq : ∀ d X', Q d X' → Q' d X') : Ob P f el X rest Q' :=
  ⟨h.1, fun w B b c args' h1 h2 h3 h4 => (h.2 w B b c args' h1 h2 h3 h4).mono fun _ _ ⟨d, v, X', c', h5, h6⟩ => ⟨d, v, X', c', hq d X' h5, h6⟩⟩

/-- What the object holds at the end. -/
def obAt (el : TypeId) (s : St) (K : List D → Prop) : Prop := match lget s.H 0 with
  | some (.cells el' X') => match Nat.beq el' el with
    | true => K X'
    | false => False
  | _ => False
theorem obAt_spec {el : TypeId} {s : St} {K : List D → Prop} (h : obAt el s K) : ∃ X', lget s.H 0 = some (.cells el X') ∧ K X' := by
  unfold obAt at h
  split at h
  · rename_i el' X' h1
    split at h
    · rename_i h2
      have := Nat.eq_of_beq_eq_true h2
      subst this
      exact ⟨X', h1, h⟩
    · exact h.elim
  · exact h.elim

theorem owned_dead {H : List (Nat × LO)} {σ : Nat → Nat} {τ : Nat → Value} {id b : Nat} (h : owned ((0, .dead) :: H) σ τ id b) : id ≠ 0 ∧ owned H σ τ id b := by
  by_cases hi : id = 0
  · subst hi
    rcases h with ⟨el, l, h1, _⟩ | ⟨α, el, e, enc, L, h1, _⟩ | ⟨o, h1, _⟩ <;> (rw [lget_same] at h1; cases h1)
  · refine ⟨hi, ?_⟩
    rcases h with ⟨el, l, h1, h2⟩ | ⟨α, el, e, enc, L, h1, h2⟩ | ⟨o, h1, h2⟩
    rotate_left 2
    · rw [lget_ne _ _ hi] at h1; exact .inr (.inr ⟨o, h1, h2⟩)
    · rw [lget_ne _ _ hi] at h1; exact .inl ⟨el, l, h1, h2⟩
    · rw [lget_ne _ _ hi] at h1; exact .inr (.inl ⟨α, el, e, enc, L, h1, h2⟩)

section
variable {P : Program} {tt : TT} {pl : Plans} {s : St} {K : D → St → Prop} {f : FuncId}

def obEnv (w : World) (B : Nat → Prop) (b n : Nat) : Env := ⟨w, B, fun k => k = b, n, fun G d v => G = ([0], 1) ∧ d = .loc 0 0 ∧ v = .pointer (some ⟨b, 0, none⟩)⟩
/-- The world as it is, as far as it was there when the call began. -/
def elder (w w1 : World) : World := { w1 with heap := w1.heap.extract 0 w.heap.size }

theorem ob_end {w w1 : World} {B : Nat → Prop} {b n : Nat} {s1 : St} {σ : Nat → Nat} {τ : Nat → Value} {a : Act} (hs : SR (obEnv w B b n) s1 σ τ a w1) {el : TypeId} {X : List D} (h0 : lget s1.H 0 = some (.cells el X)) (hb : σ 0 = b) (hB : ∀ k, B k → k < w.heap.size) :
    ∀ (k : Nat) (d : D) (v : Value), Rep (ctxOf (obEnv w B b n) s1.H s1.nx σ τ w1) d v → Rep (baseCtx w1 (newB B w w1)) (snapD k ((0, .dead) :: s1.H) d) v := by
  have hsz : (elder w w1).heap.size = w.heap.size := by
    show (w1.heap.extract 0 w.heap.size).size = _
    have := hs.heap.kept.size
    have h9 : w.heap.size ≤ w1.heap.size := this
    simp [Array.size_extract]; omega
  have hown0 : owned s1.H σ τ 0 b := .inl ⟨_, _, h0, hb.symm⟩
  have hle : (ctxOf (obEnv w B b n) s1.H s1.nx σ τ w1).Le (ctxOf ⟨elder w w1, B, fun _ => False, 0, fun _ _ _ => False⟩ ((0, .dead) :: s1.H) s1.nx σ τ w1) :=
    ⟨fun _ _ _ h => h, fun k hk => ⟨hk.1.elim .inl fun h => .inr (.inr (h.elim (fun h => absurd (by rw [show k = b from h]; exact hown0) (hk.2.2 0)) fun h => by show (elder w w1).heap.size ≤ k; rw [hsz]; exact h)), hk.2.1, fun id ho => hk.2.2 id (owned_dead ho).2⟩, fun _ _ _ h => h, fun _ _ h => h, fun _ _ _ h => h⟩
  have hr : HR ⟨elder w w1, B, fun _ => False, 0, fun _ _ _ => False⟩ ((0, .dead) :: s1.H) s1.nx σ τ w1 := by
    refine ⟨⟨rfl, rfl, rfl, ?_, fun k hk _ => ?_, Nat.le_refl _⟩, fun k hk => ⟨fun h => h, by show k < (elder w w1).heap.size; rw [hsz]; exact hB k hk⟩, fun id el' l h => ?_, fun id α el' e enc L h => ?_, fun i j k h1 h2 => hs.heap.apart i j k (owned_dead h1).2 (owned_dead h2).2, fun id o h => ?_, hs.heap.slices, fun id o h => by
      have hi : id ≠ 0 := by rintro rfl; rw [lget_same] at h; cases h
      rw [lget_ne _ _ hi] at h
      obtain ⟨h1, h2⟩ := hs.heap.obj id o h
      refine ⟨fun k hk => ⟨.inr ?_, (h1 k hk).2⟩, OA.at_mono h2 (fun _ _ => rfl) (Nat.le_refl _) hle.still⟩
      show (elder w w1).heap.size ≤ _
      rw [hsz]
      rcases (h1 k hk).1 with h3 | h3
      · have h3 : k = b := h3
        subst h3
        exact absurd (hs.heap.apart id 0 k (.inr (.inr ⟨_, h, hk⟩)) hown0) hi
      · exact h3⟩
    · show (elder w w1).heap.size ≤ _; rw [hsz]; exact hs.heap.kept.size
    · have hk : k < (elder w w1).heap.size := hk
      rw [hsz] at hk
      have h9 : w.heap.size ≤ w1.heap.size := hs.heap.kept.size
      show w1.heap[k]? = (w1.heap.extract 0 w.heap.size)[k]?
      rw [Array.getElem?_extract]
      rw [if_pos (by omega)]
      simp
    · have hi : id ≠ 0 := by rintro rfl; rw [lget_same] at h; cases h
      rw [lget_ne _ _ hi] at h
      obtain ⟨h1, c, h2, h3, h4⟩ := hs.heap.cells id el' l h
      refine ⟨.inr ?_, c, h2, h3, fun j d u hd hu => (h4 j d u hd hu).mono hle⟩
      show (elder w w1).heap.size ≤ _
      rw [hsz]
      rcases h1 with h1 | h1
      · exact absurd (hs.heap.apart id 0 b (.inl ⟨_, _, h, h1.symm⟩) hown0) hi
      · exact h1
    · have hi : id ≠ 0 := by rintro rfl; rw [lget_same] at h; cases h
      rw [lget_ne _ _ hi] at h
      obtain ⟨h1, xs, h2, h3, h4⟩ := hs.heap.grow id α el' e enc L h
      refine ⟨fun g hg => .inr ?_, xs, h2, h3, fun i x j d u hx hd hu => (h4 i x j d u hx hd hu).mono hle.still⟩
      show (elder w w1).heap.size ≤ _
      rw [hsz]
      rcases h1 g hg with h5 | h5
      · have h5 : g = b := h5
        subst h5
        exact absurd (hs.heap.apart id 0 g (.inr (.inl ⟨_, _, _, _, _, h, hg⟩)) hown0) hi
      · exact h5
    · by_cases hi : id = 0
      · subst hi; exact hs.heap.below 0 _ h0
      · rw [lget_ne _ _ hi] at h; exact hs.heap.below id o h
  intro k d v hd
  refine (snap_rep (s := ⟨[], (0, .dead) :: s1.H, s1.nx, ([], 0)⟩) hr k d v (hd.mono hle)).mono ⟨fun _ _ _ h => h, fun k hk => ?_, fun _ _ _ h => h, fun _ _ h => h, fun _ _ _ h => h⟩
  obtain ⟨h6, h7⟩ := hk
  rcases h6 with (h6 | h6) | h6
  · exact .inl h6
  · exact h6.elim
  · refine .inr ⟨?_, h7⟩
    have h6 : (elder w w1).heap.size ≤ k := h6
    rw [hsz] at h6; exact h6

/-- A contract with an object, from the body. -/
theorem ob_of_wpc (htt : ttOk P tt) (hb : entersAll P = true) (hm : P.follows .mixedOrders = true) {fn : Func} {c : Code} {el : TypeId} {X rest : List D} {Q : D → List D → Prop} (hfn : P.funcs[f]? = some fn) (hc : fn.body = some c) (hok : codeOk pl fn.ntmps c = true)
    (hn : rest.length + 1 ≤ fn.ntmps) (h : wpc P tt pl c ⟨enumD (.loc 0 0 :: rest) 0, [(0, .cells el X)], 1, ([0], 1)⟩ fun e s' => endK e (resK tt s' fn.results.toList fun l => seeD (oneD l) fun d => obAt el s' fun X' => seeD (snapD 6 ((0, .dead) :: s'.H) d) fun d => seeL (X'.map (snapD 6 ((0, .dead) :: s'.H))) fun X' => Q d X')) : Ob P f el X rest Q := by
  refine ⟨⟨fn, hfn, by rw [hc]; rfl⟩, fun w B b cc args' hB hblk hX hr => ?_⟩
  have hsz : b < w.heap.size := (Array.getElem?_eq_some_iff.1 hblk).1
  let σ0 : Nat → Nat := fun _ => b
  let τ0 : Nat → Value := fun _ => .slice none 0 0
  have hown : ∀ id k, owned [(0, .cells el X)] σ0 τ0 id k → id = 0 ∧ k = b := by
    intro id k ho
    by_cases hi : id = 0
    · subst hi
      rcases ho with ⟨_, _, h1, h2⟩ | ⟨_, _, _, _, _, h1, h2⟩ | ⟨_, h1, h2⟩
      rotate_left 2
      · rw [lget_same] at h1; cases h1
      · exact ⟨rfl, h2⟩
      · rw [lget_same] at h1; cases h1
    · rcases ho with ⟨_, _, h1, h2⟩ | ⟨_, _, _, _, _, h1, h2⟩ | ⟨_, h1, h2⟩ <;> (rw [lget_ne _ _ hi] at h1; cases h1)
  have hle : (baseCtx w B).Le (ctxOf (obEnv w B b fn.ntmps) [(0, .cells el X)] 1 σ0 τ0 w) :=
    ⟨fun _ _ _ h => h, fun k hk => ⟨.inl hk, (hB k hk).1, fun id ho => (hB k hk).2 (hown id k ho).2⟩, fun _ _ _ h => h.elim, fun _ _ h => h.elim, fun _ _ _ h => h.elim⟩
  have hr1 : reps (ctxOf (obEnv w B b fn.ntmps) [(0, .cells el X)] 1 σ0 τ0 w) (.loc 0 0 :: rest) (.pointer (some ⟨b, 0, none⟩) :: args') :=
    reps_cons (.loc ⟨Nat.zero_lt_one, rfl⟩) ⟨hr.1, fun j d u hd hu => (hr.2 j d u hd hu).mono hle⟩
  have hlen : args'.length + 1 ≤ fn.ntmps := by rw [hr.1]; exact hn
  have hs : SR (obEnv w B b fn.ntmps) ⟨enumD (.loc 0 0 :: rest) 0, [(0, .cells el X)], 1, ([0], 1)⟩ σ0 τ0 { tmps := (Value.pointer (some ⟨b, 0, none⟩) :: args').toArray ++ Array.replicate (fn.ntmps - (Value.pointer (some ⟨b, 0, none⟩) :: args').toArray.size) undef, defers := [] } w := by
    refine ⟨⟨⟨rfl, rfl, rfl, Nat.le_refl _, fun _ _ _ => rfl, Nat.le_refl _⟩, fun k hk => ⟨fun h => (hB k hk).2 h, (hB k hk).1⟩, fun id el' l h => ?_, fun id α el' e enc L h => ?_, fun i j k h1 h2 => ?_, fun id o h => ?_, fun _ => ⟨_, _, _, rfl⟩, fun id o h => by
      by_cases hi : id = 0
      · subst hi; rw [lget_same] at h; cases h
      · rw [lget_ne _ _ hi] at h; cases h⟩, rfl, ?_, fun i d hd => enter_slots hr1 fn.ntmps i d hd, fun G d v hx => ?_, Nat.le_refl _⟩
    · by_cases hi : id = 0
      · subst hi
        rw [lget_same] at h
        injection h with h; injection h with h1 h2; subst h1 h2
        exact ⟨.inl rfl, cc, hblk, by simpa using hX.1, fun j d u hd hu => (hX.2 j d u hd (by simpa using hu)).mono hle⟩
      · rw [lget_ne _ _ hi] at h; cases h
    · by_cases hi : id = 0
      · subst hi; rw [lget_same] at h; cases h
      · rw [lget_ne _ _ hi] at h; cases h
    · rw [(hown i k h1).1, (hown j k h2).1]
    · by_cases hi : id = 0
      · subst hi; exact Nat.zero_lt_one
      · rw [lget_ne _ _ hi] at h; cases h
    · simp [obEnv]; omega
    · obtain ⟨rfl, rfl, rfl⟩ := hx
      exact ⟨fun id h1 h2 => ⟨h1, h2⟩, Nat.le_refl _, .loc ⟨Nat.zero_lt_one, Nat.zero_lt_one, rfl⟩⟩
  refine calls_of_wp hfn hc (wp_mono (wpc_sound (E := obEnv w B b fn.ntmps) htt hb hm c hok _ _ _ _ _ w h hs) fun e a1 w1 hh => ?_)
  obtain ⟨x, s1, σ1, τ1, rfl, h1, h2⟩ := hh
  have fin : resK tt s1 fn.results.toList (fun l => seeD (oneD l) fun d => obAt el s1 fun X' => seeD (snapD 6 ((0, .dead) :: s1.H) d) fun d => seeL (X'.map (snapD 6 ((0, .dead) :: s1.H))) fun X' => Q d X') →
      a1.defers = [] ∧ ∃ v, (results fn a1.tmps).run P w1 = .ok v w1 ∧ ∃ d u X' c', Q d X' ∧ Ending.returned v = .returned u ∧ Turned b w w1 ∧ w1.heap[b]? = some (.cells c' el (0, 0)) ∧ reps (baseCtx w1 (newB B w w1)) X' c'.toList ∧ Rep (baseCtx w1 (newB B w w1)) d u := by
    intro hres
    obtain ⟨l, vs, h3, h4, h5⟩ := resK_run htt h2 _ _ hres
    rw [seeD_eq] at h3
    obtain ⟨X1, h6, h7⟩ := obAt_spec h3
    rw [seeD_eq, seeL_eq] at h7
    have hσ : σ1 0 = b := by
      obtain ⟨_, _, hg⟩ := h2.ghost ([0], 1) (.loc 0 0) _ ⟨rfl, rfl, rfl⟩
      cases hg with
      | loc hh =>
        obtain ⟨_, _, hh⟩ := hh
        simp at hh
        exact hh.symm
    obtain ⟨_, c1, h8, h9, h10⟩ := h2.heap.cells 0 el X1 h6
    rw [hσ] at h8
    have hend := ob_end h2 h6 hσ fun k hk => (hB k hk).1
    refine ⟨h2.defers, _, results_at h5, _, _, _, c1, h7, rfl, ⟨h2.heap.kept.os, h2.heap.kept.tape, h2.heap.kept.output, h2.heap.kept.size, fun k hk hne => h2.heap.kept.block k hk hne, h2.heap.kept.drawn⟩, h8, ⟨by simp [h9], fun j d u hd hu => ?_⟩, hend 6 _ _ (oneD_rep h4)⟩
    rw [List.getElem?_map] at hd
    cases hq : X1[j]? with
    | none => rw [hq] at hd; cases hd
    | some y =>
      rw [hq] at hd
      simp only [Option.map_some, Option.some.injEq] at hd
      subst hd
      exact hend 6 _ _ (h10 j y u hq (by simpa using hu))
  cases x with
  | normal => exact fin h1
  | ret => exact fin h1
  | exit i => exact h1.elim

/-- A call by a contract with an object. -/
theorem CallVC.ob {el : TypeId} {X rest : List D} {Q : D → List D → Prop} {i : Nat} (hf : Ob P f el X rest Q) (hid : lget s.H i = some (.cells el X)) (hX : X.all (cutOk 6 0) = true) (hcut : rest.all (cutOk 6 0) = true)
    (h : ∀ d X', Q d X' → K d ⟨s.F, (i, .cells el X') :: s.H, s.nx, s.G⟩) : CallVC P false f (.loc i 0 :: rest) s K := by
  refine ⟨hf.1, fun E σ τ a w args0 hs hr => ?_⟩
  obtain ⟨_, c, hblk, hcs, hcr⟩ := hs.heap.cells i el X hid
  have hown : owned s.H σ τ i (σ i) := .inl ⟨_, _, hid, rfl⟩
  have hbase : ∀ d v, cutOk 6 0 d = true → Rep (ctxOf E s.H s.nx σ τ w) d v → Rep (baseCtx w (ctxOf E s.H s.nx σ τ w).ok) d v := fun d v hd hv =>
    (cut_rep 6 d _ v hd hv).mono ⟨fun _ _ _ h => h, fun _ h => h, fun _ _ _ h => absurd h.1 (Nat.not_lt_zero _), fun _ _ h => absurd h.1 (Nat.not_lt_zero _), fun _ _ _ h => absurd h.1 (Nat.not_lt_zero _)⟩
  match args0, hr with
  | [], hr => have := hr.1; simp at this
  | v0 :: args', hr =>
  have hv0 : v0 = .pointer (some ⟨σ i, 0, none⟩) := by
    have := hr.2 0 (.loc i 0) v0 rfl rfl
    cases this with
    | loc hh => exact hh.2
  subst hv0
  refine (hf.2 w (ctxOf E s.H s.nx σ τ w).ok (σ i) c args' (fun k hk => ⟨hk.2.1, fun he => hk.2.2 i (he ▸ hown)⟩) hblk ⟨by simpa using hcs, fun j d u hd hu => hbase d u (all_at hX hd) (hcr j d u hd (by simpa using hu))⟩
    ⟨by have := hr.1; simpa using this, fun j d u hd hu => hbase d u (all_at hcut hd) (hr.2 (j + 1) d u (by simpa using hd) (by simpa using hu))⟩).mono fun e w' hh => ?_
  obtain ⟨d, v, X', c', hq, rfl, ht, hblk', hX', hd⟩ := hh
  have hlt : σ i < w.heap.size := (Array.getElem?_eq_some_iff.1 hblk).1
  have hlt' : σ i < w'.heap.size := Nat.lt_of_lt_of_le hlt ht.size
  let w1 : World := { w' with heap := w'.heap.set (σ i) (.cells c el (0, 0)) hlt' }
  have hw1 : ∀ k, k ≠ σ i → w'.heap[k]? = w1.heap[k]? := fun k hk => by
    show _ = (w'.heap.set (σ i) _ hlt')[k]?
    rw [Array.getElem?_set]
    rw [if_neg (fun h => hk h.symm)]
  have hwi : w1.heap[σ i]? = some (.cells c el (0, 0)) := by
    show (w'.heap.set (σ i) _ hlt')[σ i]? = _
    rw [Array.getElem?_set]
    rw [if_pos rfl]
  have hsz1 : w'.heap.size = w1.heap.size := by show _ = (w'.heap.set (σ i) _ hlt').size; simp
  have hbel : Under w.heap.size w w1 := ⟨⟨ht.os, ht.tape, ht.output, by rw [← hsz1]; exact ht.size, fun k hk => by
    by_cases hki : k = σ i
    · subst hki; rw [hwi, hblk]
    · rw [← hw1 k hki]; exact ht.block k hk hki⟩, ht.drawn⟩
  have hs1 := below_state hs hbel
  have hle : (baseCtx w' (newB (ctxOf E s.H s.nx σ τ w).ok w w')).Le (ctxOf E s.H s.nx σ τ w1) := by
    have hok : ∀ k, newB (ctxOf E s.H s.nx σ τ w).ok w w' k → (ctxOf E s.H s.nx σ τ w1).ok k := by
      intro k hk
      rcases hk with hk | ⟨h1, h2⟩
      · exact ⟨hk.1, Nat.lt_of_lt_of_le hk.2.1 hbel.size, hk.2.2⟩
      · exact ⟨.inr (.inr (Nat.le_trans hs.heap.kept.size h1)), by show k < w1.heap.size; rw [← hsz1]; exact h2, fun id ho => absurd (owned_lt hs.heap ho) (by omega)⟩
    refine ⟨fun k o hk hc => ?_, hok, fun _ _ _ h => h.elim, fun _ _ h => h.elim, fun _ _ _ h => h.elim⟩
    have hne : k ≠ σ i := fun he => (hok k hk).2.2 i (he ▸ hown)
    exact (hw1 k hne).symm.trans hc
  obtain ⟨hs2, hle2⟩ := store_state hs1 hid hblk' (Nat.le_refl _) rfl rfl rfl hsz1 (fun k hk => hw1 k hk) ⟨hX'.1, fun j d u hd hu => (hX'.2 j d u hd hu).mono hle⟩
  exact ⟨d, _, σ, τ, v, h d X' hq, rfl, hs2, (hd.mono hle).mono hle2, fun h => by cases h⟩
end
end Go.Proofs.YtbhmnloklpdmiaaDoor.V
