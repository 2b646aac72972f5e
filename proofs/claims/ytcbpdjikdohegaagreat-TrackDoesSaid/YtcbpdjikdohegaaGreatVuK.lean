/-
  Clusters of one's own objects as one thing: what holds of a family of objects, in one predicate; contracts with a cluster. Conditions: the table of types says what the program's says; functions are entered; plans are ones.
-/
import Derived.Test.YtcbpdjikdohegaaGreatK1
namespace Go.Proofs.YtcbpdjikdohegaaGreat.V
open Go.RowKit

/-! ### A part of the objects -/
section
variable {P : Program} {tt : TT} {pl : Plans} {s : St} {K : D → St → Prop} {f : FuncId} {args : List D} {E : Env} {H : List (Nat × LO)} {nx : Nat} {σ : Nat → Nat} {τ : Nat → Value} {w : World}

theorem owned_sub {H2 : List (Nat × LO)} (hsub : ∀ id o, lget H2 id = some o → lget H id = some o) {id b : Nat} (h : owned H2 σ τ id b) : owned H σ τ id b := by
  rcases h with ⟨el, l, h1, h2⟩ | ⟨α, el, e, enc, L, h1, h2⟩ | ⟨o, h1, h2⟩
  · exact .inl ⟨_, _, hsub _ _ h1, h2⟩
  · exact .inr (.inl ⟨_, _, _, _, _, hsub _ _ h1, h2⟩)
  · exact .inr (.inr ⟨_, hsub _ _ h1, h2⟩)

theorem sub_le {H2 : List (Nat × LO)} (hsub : ∀ id o, lget H2 id = some o → lget H id = some o) {E2 : Env} (hB : ∀ b, (ctxOf E H nx σ τ w).ok b → E2.B b) : (ctxOf E H nx σ τ w).Le (ctxOf E2 H2 nx σ τ w) :=
  ⟨fun _ _ _ h => h, fun b hb => ⟨.inl (hB b hb), hb.2.1, fun id ho => hb.2.2 id (owned_sub hsub ho)⟩, fun _ _ _ h => h, fun _ _ h => h, fun _ _ _ h => h⟩

theorem sub_heap (hs : HR E H nx σ τ w) {H2 : List (Nat × LO)} (hsub : ∀ id o, lget H2 id = some o → lget H id = some o) {E2 : Env} (hw : E2.w = w) (hB : ∀ b, (ctxOf E H nx σ τ w).ok b → E2.B b) (hK : ∀ id b, owned H2 σ τ id b → E2.K b) (hf : ∀ b, E2.B b → ¬ E2.K b ∧ b < w.heap.size) : HR E2 H2 nx σ τ w := by
  have hle := sub_le (E2 := E2) hsub hB
  refine ⟨by rw [← hw]; exact ⟨rfl, rfl, rfl, Nat.le_refl _, fun _ _ _ => rfl, Nat.le_refl _⟩, fun b hb => by rw [hw]; exact hf b hb, fun id el l h => ?_, fun id α el e enc L h => ?_, fun i j b h1 h2 => hs.apart i j b (owned_sub hsub h1) (owned_sub hsub h2), fun id o h => hs.below id o (hsub _ _ h), hs.slices, fun id o h => ?_⟩
  · obtain ⟨_, c, h1, h2, h3⟩ := hs.cells id el l (hsub _ _ h)
    exact ⟨.inl (hK id _ (.inl ⟨_, _, h, rfl⟩)), c, h1, h2, fun j d u hd hu => (h3 j d u hd hu).mono hle⟩
  · obtain ⟨_, xs, h1, h2, h3⟩ := hs.grow id α el e enc L (hsub _ _ h)
    exact ⟨fun g hg => .inl (hK id g (.inr (.inl ⟨_, _, _, _, _, h, hg⟩))), xs, h1, h2, fun i x j d u hx hd hu => (h3 i x j d u hx hd hu).mono hle.still⟩
  · obtain ⟨h1, h2⟩ := hs.obj id o (hsub _ _ h)
    exact ⟨fun k hk => ⟨.inl (hK id k (.inr (.inr ⟨_, h, hk⟩))), (h1 k hk).2⟩, OA.at_mono h2 (fun _ _ => rfl) (Nat.le_refl _) hle.still⟩

/-! ### Clusters -/
abbrev Fam := List (Nat × LO) → Nat → Prop
def sepEnv (C : Ctx) (S : Nat → Prop) : Env := ⟨C.w, fun b => C.ok b ∧ b < C.w.heap.size ∧ ¬ S b, S, 0, fun _ _ _ => False⟩
def SepR (A : Fam) (C : Ctx) (b : Nat) (S : Nat → Prop) : Prop :=
  ∃ H nx σ τ, A H nx ∧ σ 0 = b ∧ 0 < nx ∧ (∀ k, S k ↔ ∃ id, owned H σ τ id k) ∧ HR (sepEnv C S) H nx σ τ C.w

theorem SepR.mono {A : Fam} {C C' : Ctx} {b : Nat} {S : Nat → Prop} (h : SepR A C.still b S) (hk : ∀ k o, S k → C.w.heap[k]? = some o → C'.w.heap[k]? = some o) (hle : C.still.Le C'.still) : SepR A C'.still b S := by
  obtain ⟨H, nx, σ, τ, hA, hb, h0, hS, hr⟩ := h
  have hlt : ∀ k, k < C.w.heap.size → (S k ∨ C.ok k) → C'.w.heap[k]? = C.w.heap[k]? := fun k h1 h2 => by
    have h3 := Array.getElem?_eq_getElem h1
    rw [h3]
    exact h2.elim (fun h => hk k _ h h3) fun h => hle.block k _ h h3
  have hsz : ∀ k, k < C.w.heap.size → (S k ∨ C.ok k) → k < C'.w.heap.size := fun k h1 h2 => by
    have h3 := hlt k h1 h2
    rw [Array.getElem?_eq_getElem h1] at h3
    exact (Array.getElem?_eq_some_iff.1 h3).1
  have hSl : ∀ k, S k → k < C.w.heap.size := fun k hSk => by
    obtain ⟨id, ho⟩ := (hS k).1 hSk
    exact owned_lt hr ho
  have hcl : (ctxOf (sepEnv C.still S) H nx σ τ C.w).Le (ctxOf (sepEnv C'.still S) H nx σ τ C'.w) := by
    have hok : ∀ k, (ctxOf (sepEnv C.still S) H nx σ τ C.w).ok k → C.ok k ∧ k < C.w.heap.size ∧ ¬ S k := fun k hkk => by
      obtain ⟨h1, h2, h3⟩ := hkk
      have hn : ¬ S k := fun hSk => by
        obtain ⟨id, ho⟩ := (hS k).1 hSk
        exact h3 id ho
      rcases h1 with h1 | h1 | h1
      · exact ⟨h1.1, h2, hn⟩
      · exact absurd h1 hn
      · have : C.w.heap.size ≤ k := h1
        have h2 : k < C.w.heap.size := h2
        omega
    refine ⟨fun k o hkk ho => ?_, fun k hkk => ?_, fun _ _ _ h => h, fun _ _ h => h, fun _ _ _ h => h⟩
    · exact hle.block k o (hok k hkk).1 ho
    · obtain ⟨h1, h2, h3⟩ := hok k hkk
      have h4 := hsz k h2 (.inr h1)
      exact ⟨.inl ⟨hle.ok k h1, h4, h3⟩, h4, hkk.2.2⟩
  refine ⟨H, nx, σ, τ, hA, hb, h0, hS, ⟨⟨rfl, rfl, rfl, Nat.le_refl _, fun _ _ _ => rfl, Nat.le_refl _⟩, fun k h => ⟨h.2.2, h.2.1⟩, fun id el l h => ?_, fun id α el e enc L h => ?_, hr.apart, hr.below, hr.slices, fun id o h => ?_⟩⟩
  · obtain ⟨_, c, h1, h2, h3⟩ := hr.cells id el l h
    have hSk : S (σ id) := (hS _).2 ⟨id, .inl ⟨_, _, h, rfl⟩⟩
    exact ⟨.inl hSk, c, hk _ _ hSk h1, h2, fun j d u hd hu => (h3 j d u hd hu).mono hcl⟩
  · obtain ⟨_, xs, ⟨h1, h1'⟩, h2, h3⟩ := hr.grow id α el e enc L h
    have hSk : ∀ g, (τ id).ownBlock = some g → S g := fun g hg => (hS g).2 ⟨id, .inr (.inl ⟨_, _, _, _, _, h, hg⟩)⟩
    refine ⟨fun g hg => .inl (hSk g hg), xs, ⟨h1, ?_⟩, h2, fun i x j d u hx hd hu => (h3 i x j d u hx hd hu).mono hcl.still⟩
    rcases h1' with h1' | ⟨g, cap, cur, q1, q2, q3, q4⟩
    · exact .inl h1'
    · exact .inr ⟨g, cap, cur, q1, q2, hk _ _ (hSk g (by rw [q1]; rfl)) q3, q4⟩
  · obtain ⟨h1, h2⟩ := hr.obj id o h
    have hSk : ∀ k, o.foot (σ id) k → S k := fun k hkk => (hS k).2 ⟨id, .inr (.inr ⟨_, h, hkk⟩)⟩
    refine ⟨fun k hkk => ⟨.inl (hSk k hkk), hsz k (h1 k hkk).2 (.inl (hSk k hkk))⟩, ?_⟩
    exact OA.at_le h2 (fun k hkk => hlt k (h1 k hkk).2 (.inl (hSk k hkk))) hcl.still
def sepOf (A : Fam) : SepA := ⟨SepR A, fun h hk hle => SepR.mono h hk hle⟩

structure TurnedS (S : Nat → Prop) (w w' : World) : Prop where
  os : w'.os = w.os
  tape : w'.tape = w.tape
  output : w'.output = w.output
  size : w.heap.size ≤ w'.heap.size
  block : ∀ k, k < w.heap.size → ¬ S k → w'.heap[k]? = w.heap[k]?
  drawn : w.drawn ≤ w'.drawn
def newS (B S S' : Nat → Prop) (w w' : World) : Nat → Prop := fun k => ((B k ∨ S k) ∨ w.heap.size ≤ k) ∧ k < w'.heap.size ∧ ¬ S' k

def ObS (P : Program) (f : FuncId) (A : SepA) (rest : List D) (Q : D → SepA → Prop) : Prop :=
  hasBody P f ∧ ∀ (w : World) (B : Nat → Prop) (b : Nat) (S : Nat → Prop) (args' : List Value), (∀ k, B k → k < w.heap.size ∧ ¬ S k) → (∀ k, S k → k < w.heap.size) → A.R (baseCtx w B) b S → reps (baseCtx w B) rest args' →
    Calls P f (.pointer (some ⟨b, 0, none⟩) :: args').toArray w fun e w' => ∃ d v A' S', Q d A' ∧ e = .returned v ∧ TurnedS S w w' ∧ (∀ k, S' k → (S k ∨ w.heap.size ≤ k) ∧ k < w'.heap.size) ∧ A'.R (baseCtx w' (newS B S S' w w')) b S' ∧ Rep (baseCtx w' (newS B S S' w w')) d v
theorem ObS.mono {P : Program} {f : FuncId} {A : SepA} {rest : List D} {Q Q' : D → SepA → Prop} (h : ObS P f A rest Q) (hq : ∀ d A', Q d A' → Q' d A') : ObS P f A rest Q' :=
  ⟨h.1, fun w B b S args' h1 h2 h3 h4 => (h.2 w B b S args' h1 h2 h3 h4).mono fun _ _ ⟨d, v, A', S', q1, q2⟩ => ⟨d, v, A', S', hq _ _ q1, q2⟩⟩

def apartB (H : List (Nat × LO)) : List (Nat × LO) → Bool
  | [] => true
  | (i, _) :: r => match lget H i with
    | none => apartB H r
    | some _ => false
theorem apartB_get {H : List (Nat × LO)} : ∀ {Hr : List (Nat × LO)}, apartB H Hr = true → ∀ id o, lget Hr id = some o → lget H id = none
  | [], _, id, o, h => by cases h
  | (i, x) :: r, ha, id, o, h => by
    rw [apartB] at ha
    split at ha
    · rename_i hi
      by_cases hk : id = i
      · subst hk; exact hi
      · rw [lget_ne _ _ hk] at h; exact apartB_get ha id o h
    · cases ha

def sepEnd (s : St) (d : D) (Q : D → Fam → Prop) : Prop :=
  ∃ r z d' H0 Hr n', Cover r z ⟨[(0, d)], s.H, s.nx, s.G⟩ ⟨[(0, d')], H0 ++ Hr, n', ([0], 1)⟩ ∧ apartB H0 Hr = true ∧ ∃ A' : Fam, A' H0 n' ∧ Q (snapD 6 Hr d') A'

def sepX (b : Nat) : List Nat × Nat → D → Value → Prop := fun G d v => G = ([0], 1) ∧ d = .loc 0 0 ∧ v = .pointer (some ⟨b, 0, none⟩)

theorem sep_end {w w1 : World} {B S : Nat → Prop} {b n : Nat} {s1 : St} {σ1 : Nat → Nat} {τ1 : Nat → Value} {a1 : Act} (hS : ∀ k, S k → k < w.heap.size) (h2 : SR ⟨w, (sepEnv (baseCtx w B) S).B, S, n, sepX b⟩ s1 σ1 τ1 a1 w1) {d : D} {v : Value} (hd : Rep (ctxOf ⟨w, (sepEnv (baseCtx w B) S).B, S, n, sepX b⟩ s1.H s1.nx σ1 τ1 w1) d v) (hn : 0 < n) {Q : D → Fam → Prop} (hend : sepEnd s1 d Q) :
    ∃ d' A' S', Q d' A' ∧ TurnedS S w w1 ∧ (∀ k, S' k → (S k ∨ w.heap.size ≤ k) ∧ k < w1.heap.size) ∧ (sepOf A').R (baseCtx w1 (newS B S S' w w1)) b S' ∧ Rep (baseCtx w1 (newS B S S' w w1)) d' v := by
  obtain ⟨r, z, d', H0, Hr, n', hcov, hap, A', hA, hq⟩ := hend
  have hput : SR ⟨w, (sepEnv (baseCtx w B) S).B, S, n, sepX b⟩ ⟨[(0, d)], s1.H, s1.nx, s1.G⟩ σ1 τ1 (a1.put (some 0) v) w1 := by
    have := put_state (s := ⟨[], s1.H, s1.nx, s1.G⟩) (dst := some 0) (d := d) (v := v) ⟨h2.heap, h2.defers, h2.size, fun i d h => (by cases h), h2.ghost, h2.room⟩ hd (fun i hi => by injection hi with hi; subst hi; exact hn)
    exact this
  have hcv := cover_state hcov hput
  have hd0 := hcv.slots 0 d' (lget_same 0 d' [])
  have hval : (a1.put (some 0) v).tmps.getD 0 undef = v := by
    have hsz : 0 < a1.tmps.size := by rw [h2.size]; exact hn
    simp [Act.put, Array.getD_eq_getD_getElem?, hsz]
  rw [hval] at hd0
  generalize hσ : (fun i => σ1 (renOf r i)) = σ at hcv hd0
  generalize hτ : (fun i => bif hasN z i then Value.slice none 0 0 else τ1 (renOf r i)) = τ at hcv hd0
  have hroot : σ 0 = b ∧ 0 < n' := by
    obtain ⟨_, hg1, hg⟩ := hcv.ghost ([0], 1) (.loc 0 0) _ ⟨rfl, rfl, rfl⟩
    cases hg with
    | loc hh =>
      obtain ⟨_, _, hh⟩ := hh
      simp at hh
      exact ⟨hh.symm, hcv.room⟩
  have hheap := hcv.heap
  let E : Env := ⟨w, (sepEnv (baseCtx w B) S).B, S, n, sepX b⟩
  have hsub0 : ∀ id o, lget H0 id = some o → lget (H0 ++ Hr) id = some o := fun id o h => by rw [lget_append, h]
  have hsubr : ∀ id o, lget Hr id = some o → lget (H0 ++ Hr) id = some o := fun id o h => by rw [lget_append, apartB_get hap id o h]; exact h
  let S' : Nat → Prop := fun k => ∃ id, owned H0 σ τ id k
  have hmine : ∀ id k, owned (H0 ++ Hr) σ τ id k → (S k ∨ w.heap.size ≤ k) ∧ k < w1.heap.size := fun id k ho => by
    refine ⟨?_, owned_lt hheap ho⟩
    rcases ho with ⟨el, l, h1, rfl⟩ | ⟨α, el, e, enc, L, h1, h2⟩ | ⟨o, h1, h2⟩
    · exact (hheap.cells id el l h1).1
    · exact (hheap.grow id α el e enc L h1).1 k h2
    · exact ((hheap.obj id o h1).1 k h2).1
  have hok : ∀ k, (ctxOf E (H0 ++ Hr) n' σ τ w1).ok k → newS B S S' w w1 k ∧ ∀ id, ¬ owned (H0 ++ Hr) σ τ id k := fun k hk => by
    refine ⟨⟨?_, hk.2.1, fun ⟨id, ho⟩ => hk.2.2 id (owned_sub hsub0 ho)⟩, hk.2.2⟩
    rcases hk.1 with h | h | h
    · exact .inl (.inl h.1)
    · exact .inl (.inr h)
    · exact .inr h
  refine ⟨snapD 6 Hr d', A', S', hq, ⟨h2.heap.kept.os, h2.heap.kept.tape, h2.heap.kept.output, h2.heap.kept.size, fun k hk hne => h2.heap.kept.block k hk hne, h2.heap.kept.drawn⟩, fun k ⟨id, ho⟩ => hmine id k (owned_sub hsub0 ho), ?_, ?_⟩
  · refine ⟨H0, n', σ, τ, hA, hroot.1, hroot.2, fun k => Iff.rfl, ?_⟩
    refine sub_heap (E := E) hheap hsub0 (E2 := sepEnv (baseCtx w1 (newS B S S' w w1)) S') rfl (fun k hk => ?_) (fun id k ho => ⟨id, ho⟩) fun k hk => ⟨hk.2.2, hk.2.1⟩
    exact ⟨(hok k hk).1, (hok k hk).1.2.1, (hok k hk).1.2.2⟩
  · let E2 : Env := ⟨w1, (ctxOf E (H0 ++ Hr) n' σ τ w1).ok, fun k => ∃ id, owned Hr σ τ id k, 0, fun _ _ _ => False⟩
    have hr2 : HR E2 Hr n' σ τ w1 := sub_heap (E := E) hheap hsubr rfl (fun k hk => hk) (fun id k ho => ⟨id, ho⟩) fun k hk => ⟨fun ⟨id, ho⟩ => hk.2.2 id (owned_sub hsubr ho), hk.2.1⟩
    refine (snap_rep (s := ⟨[], Hr, n', ([], 0)⟩) hr2 6 d' v (hd0.mono (sub_le hsubr fun k hk => hk))).mono ⟨fun _ _ _ h => h, fun k hk => ?_, fun _ _ _ h => h, fun _ _ h => h, fun _ _ _ h => h⟩
    obtain ⟨hk1, hk2⟩ := hk
    rcases hk1 with (hk1 | ⟨id, ho⟩) | hk1
    · exact (hok k hk1).1
    · obtain ⟨h4, h5⟩ := hmine id k (owned_sub hsubr ho)
      refine ⟨?_, h5, fun ⟨id2, ho2⟩ => ?_⟩
      · exact h4.elim (fun h => .inl (.inr h)) .inr
      · have := hheap.apart id id2 k (owned_sub hsubr ho) (owned_sub hsub0 ho2)
        subst this
        rcases ho with ⟨_, _, h1, _⟩ | ⟨_, _, _, _, _, h1, _⟩ | ⟨_, h1, _⟩ <;> rcases ho2 with ⟨_, _, h3, _⟩ | ⟨_, _, _, _, _, h3, _⟩ | ⟨_, h3, _⟩ <;> (have := apartB_get hap _ _ h1; rw [this] at h3; cases h3)
    · have : w1.heap.size ≤ k := hk1
      have : k < w1.heap.size := hk2
      omega

theorem sep_start {w : World} {B S : Nat → Prop} {b n : Nat} {H : List (Nat × LO)} {nx : Nat} {σ : Nat → Nat} {τ : Nat → Value} (hs : HR (sepEnv (baseCtx w B) S) H nx σ τ w) (hS : ∀ k, S k ↔ ∃ id, owned H σ τ id k) (hb : σ 0 = b) (h0 : 0 < nx) (hB : ∀ k, B k → k < w.heap.size ∧ ¬ S k) {rest : List D} {args' : List Value} (hr : reps (baseCtx w B) rest args') (hn : rest.length + 1 ≤ n) :
    SR ⟨w, (sepEnv (baseCtx w B) S).B, S, n, sepX b⟩ ⟨enumD (.loc 0 0 :: rest) 0, H, nx, ([0], 1)⟩ σ τ { tmps := (Value.pointer (some ⟨b, 0, none⟩) :: args').toArray ++ Array.replicate (n - (Value.pointer (some ⟨b, 0, none⟩) :: args').toArray.size) undef, defers := [] } w := by
  have hle : (baseCtx w B).Le (ctxOf ⟨w, (sepEnv (baseCtx w B) S).B, S, n, sepX b⟩ H nx σ τ w) :=
    ⟨fun _ _ _ h => h, fun k hk => ⟨.inl ⟨hk, hB k hk⟩, (hB k hk).1, fun id ho => (hB k hk).2 ((hS k).2 ⟨id, ho⟩)⟩, fun _ _ _ h => h.elim, fun _ _ h => h.elim, fun _ _ _ h => h.elim⟩
  have hr1 : reps (ctxOf ⟨w, (sepEnv (baseCtx w B) S).B, S, n, sepX b⟩ H nx σ τ w) (.loc 0 0 :: rest) (.pointer (some ⟨b, 0, none⟩) :: args') :=
    reps_cons (.loc ⟨h0, by rw [hb]⟩) ⟨hr.1, fun j d u hd hu => (hr.2 j d u hd hu).mono hle⟩
  have hlen : args'.length + 1 ≤ n := by rw [hr.1]; exact hn
  refine ⟨⟨⟨rfl, rfl, rfl, Nat.le_refl _, fun _ _ _ => rfl, Nat.le_refl _⟩, hs.few, hs.cells, hs.grow, hs.apart, hs.below, hs.slices, hs.obj⟩, rfl, ?_, fun i d hd => enter_slots hr1 n i d hd, fun G d v hx => ?_, h0⟩
  · simp; omega
  · obtain ⟨rfl, rfl, rfl⟩ := hx
    exact ⟨fun id h1 h2 => ⟨h1, h2⟩, Nat.le_refl _, .loc ⟨Nat.zero_lt_one, h0, by rw [hb]⟩⟩

theorem obs_of_wpc (htt : ttOk P tt) (hb : entersAll P = true) (hm : P.follows .mixedOrders = true) {fn : Func} {c : Code} {A : Fam} {rest : List D} {Q : D → SepA → Prop} (hfn : P.funcs[f]? = some fn) (hc : fn.body = some c) (hok : codeOk pl fn.ntmps c = true)
    (hn : rest.length + 1 ≤ fn.ntmps) (h : ∀ H nx, A H nx → wpc P tt pl c ⟨enumD (.loc 0 0 :: rest) 0, H, nx, ([0], 1)⟩ fun e s' => endK e (resK tt s' fn.results.toList fun l => seeD (oneD l) fun d => sepEnd s' d fun d A' => Q d (sepOf A'))) : ObS P f (sepOf A) rest Q := by
  refine ⟨⟨fn, hfn, by rw [hc]; rfl⟩, fun w B b S args' hB hSl hR hr => ?_⟩
  obtain ⟨H, nx, σ, τ, hA, hb0, h0, hS, hhr⟩ := hR
  have hs := sep_start (n := fn.ntmps) hhr hS hb0 h0 hB hr hn
  refine calls_of_wp hfn hc (wp_mono (wpc_sound htt hb hm c hok _ _ _ _ _ w (h H nx hA) hs) fun e a1 w1 hh => ?_)
  obtain ⟨x, s1, σ1, τ1, rfl, h1, h2⟩ := hh
  have fin : resK tt s1 fn.results.toList (fun l => seeD (oneD l) fun d => sepEnd s1 d fun d A' => Q d (sepOf A')) →
      a1.defers = [] ∧ ∃ v, (results fn a1.tmps).run P w1 = .ok v w1 ∧ ∃ d u A' S', Q d A' ∧ Ending.returned v = .returned u ∧ TurnedS S w w1 ∧ (∀ k, S' k → (S k ∨ w.heap.size ≤ k) ∧ k < w1.heap.size) ∧ A'.R (baseCtx w1 (newS B S S' w w1)) b S' ∧ Rep (baseCtx w1 (newS B S S' w w1)) d u := by
    intro hres
    obtain ⟨l, vs, h3, h4, h5⟩ := resK_run htt h2 _ _ hres
    rw [seeD_eq] at h3
    obtain ⟨d', A', S', q1, q2, q3, q4, q5⟩ := sep_end hSl h2 (oneD_rep h4) (by omega) h3
    exact ⟨h2.defers, _, results_at h5, d', _, sepOf A', S', q1, rfl, q2, q3, q4, q5⟩
  cases x with
  | normal => exact fin h1
  | ret => exact fin h1
  | exit i => exact h1.elim

theorem obs_of_call {A : Fam} {rest : List D} {Q : D → SepA → Prop} (hb : hasBody P f) (h : ∀ H nx, A H nx → CallVC P false f (.loc 0 0 :: rest) ⟨enumD (.loc 0 0 :: rest) 0, H, nx, ([0], 1)⟩ fun d s' => sepEnd s' d fun d A' => Q d (sepOf A')) : ObS P f (sepOf A) rest Q := by
  refine ⟨hb, fun w B b S args' hB hSl hR hr => ?_⟩
  obtain ⟨H, nx, σ, τ, hA, hb0, h0, hS, hhr⟩ := hR
  have hs := sep_start (n := rest.length + 1) hhr hS hb0 h0 hB hr (Nat.le_refl _)
  have hle : (baseCtx w B).Le (ctxOf ⟨w, (sepEnv (baseCtx w B) S).B, S, rest.length + 1, sepX b⟩ H nx σ τ w) :=
    ⟨fun _ _ _ h => h, fun k hk => ⟨.inl ⟨hk, hB k hk⟩, (hB k hk).1, fun id ho => (hB k hk).2 ((hS k).2 ⟨id, ho⟩)⟩, fun _ _ _ h => h.elim, fun _ _ h => h.elim, fun _ _ _ h => h.elim⟩
  refine ((h H nx hA).right _ σ τ _ w (.pointer (some ⟨b, 0, none⟩) :: args') hs (reps_cons (.loc ⟨h0, by rw [hb0]⟩) ⟨hr.1, fun j d u hd hu => (hr.2 j d u hd hu).mono hle⟩)).mono fun e w1 hh => ?_
  obtain ⟨d, s1, σ1, τ1, v, h1, h2, h3, h4, _⟩ := hh
  obtain ⟨d', A', S', q1, q2, q3, q4, q5⟩ := sep_end hSl h3 h4 (Nat.succ_pos _) h1
  exact ⟨d', v, sepOf A', S', q1, h2, q2, q3, q4, q5⟩

theorem fnN_sp {A : Fam} {rest : List D} {Q : D → Prop} (hb : hasBody P f) (h : ∀ H nx, A H nx → FnN P f (snapD 6 H (.loc 0 0) :: rest) Q) : FnN P f (.sp (sepOf A) :: rest) Q := by
  refine ⟨hb, fun w B args' hB hr => ?_⟩
  match args', hr with
  | [], hr => have := hr.1; simp at this
  | v0 :: args', hr =>
  have hv := hr.2 0 _ v0 rfl rfl
  cases hv with
  | sp S hR hS =>
    rename_i b
    obtain ⟨H, nx, σ, τ, hA, hb0, h0, hSo, hhr⟩ := hR
    refine (h H nx hA).2 w B _ hB (reps_cons ?_ ⟨by have := hr.1; simpa using this, fun j d u hd hu => hr.2 (j + 1) d u (by simpa using hd) (by simpa using hu)⟩)
    refine (snap_rep (s := ⟨[], H, nx, ([], 0)⟩) hhr 6 (.loc 0 0) _ (.loc ⟨h0, by rw [hb0]⟩)).mono ⟨fun _ _ _ h => h, fun k hk => ?_, fun _ _ _ h => h, fun _ _ h => h, fun _ _ _ h => h⟩
    obtain ⟨hk1, hk2⟩ := hk
    rcases hk1 with (hk1 | hk1) | hk1
    · exact hk1.1
    · exact hS k hk1
    · have : w.heap.size ≤ k := hk1
      have : k < w.heap.size := hk2
      omega

theorem CallVC.obs {A : SepA} {S : Nat → Prop} {rest : List D} {Q : D → SepA → Prop} {i : Nat} (hf : ObS P f A rest Q) (hid : lget s.H i = some (.obj (.sep S A))) (hcut : rest.all (cutOk 6 0) = true)
    (h : ∀ d A' S', Q d A' → K d ⟨s.F, (i, .obj (.sep S' A')) :: s.H, s.nx, s.G⟩) : CallVC P false f (.loc i 0 :: rest) s K := by
  refine ⟨hf.1, fun E σ τ a w args0 hs hr => ?_⟩
  obtain ⟨hfoot, hR⟩ := hs.heap.obj i _ hid
  have hown : ∀ k, S k → owned s.H σ τ i k := fun k hk => .inr (.inr ⟨_, hid, hk⟩)
  have hbase : ∀ d v, cutOk 6 0 d = true → Rep (ctxOf E s.H s.nx σ τ w) d v → Rep (baseCtx w (ctxOf E s.H s.nx σ τ w).ok) d v := fun d v hd hv =>
    (cut_rep 6 d _ v hd hv).mono ⟨fun _ _ _ h => h, fun _ h => h, fun _ _ _ h => absurd h.1 (Nat.not_lt_zero _), fun _ _ h => absurd h.1 (Nat.not_lt_zero _), fun _ _ _ h => absurd h.1 (Nat.not_lt_zero _)⟩
  match args0, hr with
  | [], hr => have := hr.1; simp at this
  | v0 :: args', hr =>
  have hv0 : v0 = .pointer (some ⟨σ i, 0, none⟩) := by
    have := hr.2 0 (.loc i 0) v0 rfl rfl
    cases this with
    | loc hh => exact hh.2
  subst hv0
  refine (hf.2 w (ctxOf E s.H s.nx σ τ w).ok (σ i) S args' (fun k hk => ⟨hk.2.1, fun hS => hk.2.2 i (hown k hS)⟩) (fun k hk => (hfoot k hk).2) hR
    ⟨by have := hr.1; simpa using this, fun j d u hd hu => hbase d u (all_at hcut hd) (hr.2 (j + 1) d u (by simpa using hd) (by simpa using hu))⟩).mono fun e w' hh => ?_
  obtain ⟨d, v, A', S', hq, rfl, ht, hS', hR', hd⟩ := hh
  have howned' : ∀ id k, owned ((i, .obj (.sep S' A')) :: s.H) σ τ id k → (id = i ∧ S' k) ∨ (id ≠ i ∧ owned s.H σ τ id k) := by
    intro id k ho
    by_cases hi : id = i
    · subst hi
      rcases ho with ⟨_, _, h1, _⟩ | ⟨_, _, _, _, _, h1, _⟩ | ⟨o, h1, h2⟩
      · rw [lget_same] at h1; cases h1
      · rw [lget_same] at h1; cases h1
      · rw [lget_same] at h1
        injection h1 with h1; injection h1 with h1; subst h1
        exact .inl ⟨rfl, h2⟩
    · refine .inr ⟨hi, ?_⟩
      rcases ho with ⟨_, _, h1, h2⟩ | ⟨_, _, _, _, _, h1, h2⟩ | ⟨o, h1, h2⟩
      · rw [lget_ne _ _ hi] at h1; exact .inl ⟨_, _, h1, h2⟩
      · rw [lget_ne _ _ hi] at h1; exact .inr (.inl ⟨_, _, _, _, _, h1, h2⟩)
      · rw [lget_ne _ _ hi] at h1; exact .inr (.inr ⟨_, h1, h2⟩)
  have hblk : ∀ id k, id ≠ i → owned s.H σ τ id k → w'.heap[k]? = w.heap[k]? := fun id k hi ho => ht.block k (owned_lt hs.heap ho) fun hSk => hi (hs.heap.apart id i k ho (hown k hSk))
  have hokb : ∀ k, (ctxOf E s.H s.nx σ τ w).ok k → w'.heap[k]? = w.heap[k]? := fun k hk => ht.block k hk.2.1 fun hSk => hk.2.2 i (hown k hSk)
  have hle : (ctxOf E s.H s.nx σ τ w).Le (ctxOf E ((i, .obj (.sep S' A')) :: s.H) s.nx σ τ w') := by
    refine ⟨fun k o hk ho => (hokb k hk).trans ho, fun k hk => ⟨hk.1, Nat.lt_of_lt_of_le hk.2.1 ht.size, fun id ho => ?_⟩, fun _ _ _ h => h, fun _ _ h => h, fun _ _ _ h => h⟩
    rcases howned' id k ho with ⟨_, h2⟩ | ⟨_, h2⟩
    · rcases (hS' k h2).1 with h3 | h3
      · exact hk.2.2 i (hown k h3)
      · have : k < w.heap.size := hk.2.1
        omega
    · exact hk.2.2 id h2
  have hle2 : (baseCtx w' (newS (ctxOf E s.H s.nx σ τ w).ok S S' w w')).Le (ctxOf E ((i, .obj (.sep S' A')) :: s.H) s.nx σ τ w').still := by
    refine ⟨fun _ _ _ h => h, fun k hk => ?_, fun _ _ _ h => h, fun _ _ h => h, fun _ _ _ h => h⟩
    obtain ⟨hk1, hk2, hk3⟩ := hk
    have key : (E.B k ∨ E.mine k) ∧ ∀ id, id ≠ i → ¬ owned s.H σ τ id k := by
      rcases hk1 with (hk1 | hk1) | hk1
      · exact ⟨hk1.1, fun id _ => hk1.2.2 id⟩
      · exact ⟨.inr (hfoot k hk1).1, fun id hi ho => hi (hs.heap.apart id i k ho (hown k hk1))⟩
      · exact ⟨.inr (.inr (Nat.le_trans hs.heap.kept.size hk1)), fun id _ ho => by have := owned_lt hs.heap ho; omega⟩
    refine ⟨key.1, hk2, fun id ho => ?_⟩
    rcases howned' id k ho with ⟨_, h2⟩ | ⟨h1, h2⟩
    · exact hk3 h2
    · exact key.2 id h1 h2
  refine ⟨d, _, σ, τ, v, h d A' S' hq, rfl, ⟨⟨⟨ht.os.trans hs.heap.kept.os, ht.tape.trans hs.heap.kept.tape, ht.output.trans hs.heap.kept.output, Nat.le_trans hs.heap.kept.size ht.size, fun k hk hnk => ?_, Nat.le_trans hs.heap.kept.drawn ht.drawn⟩, hs.heap.few, fun id el l hl => ?_, fun id α el e enc L hl => ?_, fun p q k h1 h2 => ?_, fun id o hl => ?_, hs.heap.slices, fun id o hl => ?_⟩, hs.defers, hs.size, fun j d hd => (hs.slots j d hd).mono hle, hs.ghost_le rfl hle, hs.room⟩, hd.mono (hle2.trans (Ctx.still_le _)), fun hg => by cases hg⟩
  · refine (ht.block k (Nat.lt_of_lt_of_le hk hs.heap.kept.size) fun hSk => ?_).trans (hs.heap.kept.block k hk hnk)
    rcases (hfoot k hSk).1 with h1 | h1
    · exact hnk h1
    · omega
  · have hi : id ≠ i := by rintro rfl; rw [lget_same] at hl; cases hl
    rw [lget_ne _ _ hi] at hl
    obtain ⟨h1, c, h2, h3, h4⟩ := hs.heap.cells id el l hl
    exact ⟨h1, c, (hblk id _ hi (.inl ⟨_, _, hl, rfl⟩)).trans h2, h3, fun j d u hd hu => (h4 j d u hd hu).mono hle⟩
  · have hi : id ≠ i := by rintro rfl; rw [lget_same] at hl; cases hl
    rw [lget_ne _ _ hi] at hl
    obtain ⟨h1, xs, ⟨h2, h2'⟩, h3, h4⟩ := hs.heap.grow id α el e enc L hl
    refine ⟨h1, xs, ⟨h2, ?_⟩, h3, fun p x j d u hx hd hu => (h4 p x j d u hx hd hu).mono hle.still⟩
    rcases h2' with h2' | ⟨g, cap, cur, q1, q2, q3, q4⟩
    · exact .inl h2'
    · exact .inr ⟨g, cap, cur, q1, q2, (hblk id g hi (.inr (.inl ⟨_, _, _, _, _, hl, by rw [q1]; rfl⟩))).trans q3, q4⟩
  · rcases howned' p k h1 with ⟨h3, h4⟩ | ⟨h3, h4⟩ <;> rcases howned' q k h2 with ⟨h5, h6⟩ | ⟨h5, h6⟩
    · rw [h3, h5]
    · rcases (hS' k h4).1 with h7 | h7
      · exact absurd (hs.heap.apart q i k h6 (hown k h7)) h5
      · have := owned_lt hs.heap h6; omega
    · rcases (hS' k h6).1 with h7 | h7
      · exact absurd (hs.heap.apart p i k h4 (hown k h7)) h3
      · have := owned_lt hs.heap h4; omega
    · exact hs.heap.apart p q k h4 h6
  · by_cases hi : id = i
    · subst hi; exact hs.heap.below id _ hid
    · rw [lget_ne _ _ hi] at hl; exact hs.heap.below id o hl
  · by_cases hi : id = i
    · subst hi
      rw [lget_same] at hl
      injection hl with hl; injection hl with hl; subst hl
      refine ⟨fun k hk => ⟨?_, (hS' k hk).2⟩, SepA.mono A' (C := baseCtx w' (newS (ctxOf E s.H s.nx σ τ w).ok S S' w w')) (C' := (ctxOf E ((id, .obj (.sep S' A')) :: s.H) s.nx σ τ w')) hR' (fun _ _ _ h => h) hle2⟩
      rcases (hS' k hk).1 with h3 | h3
      · exact (hfoot k h3).1
      · exact .inr (Nat.le_trans hs.heap.kept.size h3)
    · rw [lget_ne _ _ hi] at hl
      obtain ⟨h1, h2⟩ := hs.heap.obj id o hl
      exact ⟨fun k hk => ⟨(h1 k hk).1, Nat.lt_of_lt_of_le (h1 k hk).2 ht.size⟩, OA.at_le h2 (fun k hk => hblk id k hi (.inr (.inr ⟨_, hl, hk⟩))) hle.still⟩

/-! ### New clusters -/
def NewS (P : Program) (f : FuncId) (args : List D) (Q : SepA → Prop) : Prop :=
  hasBody P f ∧ ∀ (w : World) (B : Nat → Prop) (args' : List Value), (∀ b, B b → b < w.heap.size) → reps (baseCtx w B) args args' →
    Calls P f args'.toArray w fun e w' => ∃ b A S, Q A ∧ e = .returned (.pointer (some ⟨b, 0, none⟩)) ∧ Under w.heap.size w w' ∧ (∀ k, S k → w.heap.size ≤ k ∧ k < w'.heap.size) ∧ A.R (baseCtx w' fun k => (B k ∨ w.heap.size ≤ k) ∧ k < w'.heap.size ∧ ¬ S k) b S
theorem NewS.mono {args : List D} {Q Q' : SepA → Prop} (h : NewS P f args Q) (hq : ∀ A, Q A → Q' A) : NewS P f args Q' :=
  ⟨h.1, fun w B args' h1 h2 => (h.2 w B args' h1 h2).mono fun _ _ ⟨b, A, S, q1, q2⟩ => ⟨b, A, S, hq _ q1, q2⟩⟩

def newEnd (s : St) (d : D) (Q : Fam → Prop) : Prop :=
  ∃ r z H0 n', Cover r z ⟨[(0, d)], s.H, s.nx, s.G⟩ ⟨[(0, .loc 0 0)], H0, n', ([], 0)⟩ ∧ 0 < n' ∧ ∃ A' : Fam, A' H0 n' ∧ Q A'

theorem new_of_wpc (htt : ttOk P tt) (hb : entersAll P = true) (hm : P.follows .mixedOrders = true) {fn : Func} {c : Code} {Q : SepA → Prop} (hfn : P.funcs[f]? = some fn) (hc : fn.body = some c) (hok : codeOk pl fn.ntmps c = true) (h0 : 0 < fn.ntmps)
    (hn : args.length ≤ fn.ntmps) (h : wpc P tt pl c ⟨enumD args 0, [], 0, ([], 0)⟩ fun e s => endK e (resK tt s fn.results.toList fun l => seeD (oneD l) fun d => newEnd s d fun A' => Q (sepOf A'))) : NewS P f args Q := by
  refine ⟨⟨fn, hfn, by rw [hc]; rfl⟩, fun w B args' hB hr => ?_⟩
  have hr0 := hr
  let E : Env := ⟨w, B, fun _ => False, fn.ntmps, fun _ _ _ => False⟩
  have hle : (baseCtx w B).Le (ctxOf E [] 0 (fun _ => 0) (fun _ => .slice none 0 0) w) :=
    ⟨fun _ _ _ h => h, (fun b hb => ⟨.inl hb, hB b hb, fun id ho => by rcases ho with ⟨_, _, h, _⟩ | ⟨_, _, _, _, _, h, _⟩ | ⟨_, h, _⟩ <;> cases h⟩), fun _ _ _ h => h.elim, fun _ _ h => h.elim, fun _ _ _ h => h.elim⟩
  have hlen : args'.length ≤ fn.ntmps := by rw [hr.1]; exact hn
  have hs : SR E ⟨enumD args 0, [], 0, ([], 0)⟩ (fun _ => 0) (fun _ => .slice none 0 0) { tmps := args'.toArray ++ Array.replicate (fn.ntmps - args'.toArray.size) undef, defers := [] } w :=
    ⟨⟨⟨rfl, rfl, rfl, Nat.le_refl _, fun _ _ _ => rfl, Nat.le_refl _⟩, fun b hb => ⟨fun h => h, hB b hb⟩, (fun id el l h => by cases h), (fun id α el e enc L h => by cases h), (fun i j b h => by rcases h with ⟨_, _, h, _⟩ | ⟨_, _, _, _, _, h, _⟩ | ⟨_, h, _⟩ <;> cases h), (fun id o h => by cases h), fun _ => ⟨_, _, _, rfl⟩, fun id o h => by cases h⟩,
      rfl, by simp [E]; omega, fun i d hd => (enter_slots hr0 fn.ntmps i d hd).mono hle, fun _ _ _ h => h.elim, Nat.le_refl _⟩
  refine calls_of_wp hfn hc (wp_mono (wpc_sound (E := E) htt hb hm c hok _ _ _ _ _ w h hs) fun e a1 w1 hh => ?_)
  obtain ⟨x, s1, σ1, τ1, rfl, h1, h2⟩ := hh
  have fin : resK tt s1 fn.results.toList (fun l => seeD (oneD l) fun d => newEnd s1 d fun A' => Q (sepOf A')) → a1.defers = [] ∧ ∃ v, (results fn a1.tmps).run P w1 = .ok v w1 ∧ ∃ b A S, Q A ∧ Ending.returned v = .returned (.pointer (some ⟨b, 0, none⟩)) ∧ Under w.heap.size w w1 ∧ (∀ k, S k → w.heap.size ≤ k ∧ k < w1.heap.size) ∧ A.R (baseCtx w1 fun k => (B k ∨ w.heap.size ≤ k) ∧ k < w1.heap.size ∧ ¬ S k) b S := by
    intro hres
    obtain ⟨l, vs, h3, h4, h5⟩ := resK_run htt h2 _ _ hres
    rw [seeD_eq] at h3
    have hbel : Under w.heap.size w w1 := ⟨⟨h2.heap.kept.os, h2.heap.kept.tape, h2.heap.kept.output, h2.heap.kept.size, fun k hk => h2.heap.kept.block k hk (fun h => h)⟩, h2.heap.kept.drawn⟩
    obtain ⟨r, z, H0, n', hcov, hn0, A', hA, hq⟩ := h3
    have hput : SR E ⟨[(0, oneD l)], s1.H, s1.nx, s1.G⟩ σ1 τ1 (a1.put (some 0) (oneV vs)) w1 := by
      have := put_state (s := ⟨[], s1.H, s1.nx, s1.G⟩) (dst := some 0) (d := oneD l) (v := oneV vs) ⟨h2.heap, h2.defers, h2.size, fun i d h => (by cases h), h2.ghost, h2.room⟩ (oneD_rep h4) (fun i hi => by injection hi with hi; subst hi; exact h0)
      exact this
    have hcv := cover_state hcov hput
    have hd0 := hcv.slots 0 (.loc 0 0) (lget_same 0 _ [])
    have hval : (a1.put (some 0) (oneV vs)).tmps.getD 0 undef = oneV vs := by
      have hsz : 0 < a1.tmps.size := by rw [h2.size]; exact h0
      simp [Act.put, Array.getD_eq_getD_getElem?, hsz]
    rw [hval] at hd0
    generalize hσ : (fun i => σ1 (renOf r i)) = σ at hcv hd0
    generalize hτ : (fun i => bif hasN z i then Value.slice none 0 0 else τ1 (renOf r i)) = τ at hcv hd0
    have hv : oneV vs = .pointer (some ⟨σ 0, 0, none⟩) := by
      cases hd0 with
      | loc hh => exact hh.2
    have hheap := hcv.heap
    have hown : ∀ id k, owned H0 σ τ id k → w.heap.size ≤ k ∧ k < w1.heap.size := fun id k ho => by
      refine ⟨?_, owned_lt hheap ho⟩
      rcases ho with ⟨el, l, h1, rfl⟩ | ⟨α, el, e, enc, L, h1, h2⟩ | ⟨o, h1, h2⟩
      · exact (hheap.cells id el l h1).1.elim (fun h => h.elim) fun h => h
      · exact ((hheap.grow id α el e enc L h1).1 k h2).elim (fun h => h.elim) fun h => h
      · exact ((hheap.obj id o h1).1 k h2).1.elim (fun h => h.elim) fun h => h
    refine ⟨h2.defers, _, results_at h5, σ 0, sepOf A', fun k => ∃ id, owned H0 σ τ id k, hq, by rw [hv], hbel, fun k ⟨id, ho⟩ => hown id k ho, ?_⟩
    refine ⟨H0, n', σ, τ, hA, rfl, hn0, fun k => Iff.rfl, ?_⟩
    refine sub_heap (E := E) hheap (fun id o h => h) (E2 := sepEnv (baseCtx w1 _) _) rfl (fun k hk => ?_) (fun id k ho => ⟨id, ho⟩) fun k hk => ⟨hk.2.2, hk.2.1⟩
    have hno : ¬ ∃ id, owned H0 σ τ id k := fun ⟨id, ho⟩ => hk.2.2 id ho
    refine ⟨⟨?_, hk.2.1, hno⟩, hk.2.1, hno⟩
    rcases hk.1 with h | h | h
    · exact .inl h
    · exact h.elim
    · exact .inr h
  cases x with
  | normal => exact fin h1
  | ret => exact fin h1
  | exit i => exact h1.elim

theorem CallVC.news {g : Bool} {Q : SepA → Prop} (hf : NewS P f args Q) (hcut : args.all (cutOk 6 0) = true) (h : ∀ A S, Q A → K (.loc s.nx 0) ⟨s.F, (s.nx, .obj (.sep S A)) :: s.H, s.nx + 1, s.G⟩) : CallVC P g f args s K := by
  refine ⟨hf.1, fun E σ τ a w args' hs hr => ?_⟩
  have hr' : reps (baseCtx w (ctxOf E s.H s.nx σ τ w).ok) args args' := ⟨hr.1, fun j d u hd hu => (cut_rep 6 d _ u (all_at hcut hd) (hr.2 j d u hd hu)).mono ⟨fun _ _ _ h => h, fun _ h => h, fun _ _ _ h => absurd h.1 (Nat.not_lt_zero _), fun _ _ h => absurd h.1 (Nat.not_lt_zero _), fun _ _ _ h => absurd h.1 (Nat.not_lt_zero _)⟩⟩
  refine (hf.2 w _ args' (fun b hb => hb.2.1) hr').mono fun e w' hh => ?_
  obtain ⟨b, A, S, hq, rfl, hu, hS, hR⟩ := hh
  have howned : ∀ id k, owned ((s.nx, .obj (.sep S A)) :: s.H) (setN σ s.nx b) τ id k → (id = s.nx ∧ S k) ∨ (id ≠ s.nx ∧ owned s.H σ τ id k) := by
    intro id k ho
    by_cases hi : id = s.nx
    · subst hi
      rcases ho with ⟨_, _, h1, _⟩ | ⟨_, _, _, _, _, h1, _⟩ | ⟨o, h1, h2⟩
      · rw [lget_same] at h1; cases h1
      · rw [lget_same] at h1; cases h1
      · rw [lget_same] at h1
        injection h1 with h1; injection h1 with h1; subst h1
        exact .inl ⟨rfl, h2⟩
    · refine .inr ⟨hi, ?_⟩
      have e0 : setN σ s.nx b id = σ id := by simp [setN, hi]
      rcases ho with ⟨_, _, h1, h2⟩ | ⟨_, _, _, _, _, h1, h2⟩ | ⟨o, h1, h2⟩
      · rw [lget_ne _ _ hi] at h1; rw [e0] at h2; exact .inl ⟨_, _, h1, h2⟩
      · rw [lget_ne _ _ hi] at h1; exact .inr (.inl ⟨_, _, _, _, _, h1, h2⟩)
      · rw [lget_ne _ _ hi] at h1; rw [e0] at h2; exact .inr (.inr ⟨_, h1, h2⟩)
  have hle : (ctxOf E s.H s.nx σ τ w).Le (ctxOf E ((s.nx, .obj (.sep S A)) :: s.H) (s.nx + 1) (setN σ s.nx b) τ w') := by
    refine ⟨fun k o hk ho => (hu.block k hk.2.1).trans ho, fun k hk => ⟨hk.1, Nat.lt_of_lt_of_le hk.2.1 hu.size, fun id ho => ?_⟩, fun id off v hv => ?_, fun id v hv => ⟨Nat.lt_succ_of_lt hv.1, hv.2⟩, fun id off v hv => ⟨Nat.lt_succ_of_lt hv.1, hv.2⟩⟩
    · rcases howned id k ho with ⟨_, h2⟩ | ⟨_, h2⟩
      · have := (hS k h2).1
        have : k < w.heap.size := hk.2.1
        omega
      · exact hk.2.2 id h2
    · obtain ⟨h1, rfl⟩ := hv
      exact ⟨Nat.lt_succ_of_lt h1, by simp [setN, show id ≠ s.nx by omega]⟩
  have hle2 : (baseCtx w' fun k => ((ctxOf E s.H s.nx σ τ w).ok k ∨ w.heap.size ≤ k) ∧ k < w'.heap.size ∧ ¬ S k).Le (ctxOf E ((s.nx, .obj (.sep S A)) :: s.H) (s.nx + 1) (setN σ s.nx b) τ w').still := by
    refine ⟨fun _ _ _ h => h, fun k hk => ?_, fun _ _ _ h => h, fun _ _ h => h, fun _ _ _ h => h⟩
    obtain ⟨hk1, hk2, hk3⟩ := hk
    refine ⟨?_, hk2, fun id ho => ?_⟩
    · rcases hk1 with hk1 | hk1
      · exact hk1.1
      · exact .inr (.inr (Nat.le_trans hs.heap.kept.size hk1))
    · rcases howned id k ho with ⟨_, h2⟩ | ⟨_, h2⟩
      · exact hk3 h2
      · rcases hk1 with hk1 | hk1
        · exact hk1.2.2 id h2
        · have := owned_lt hs.heap h2; omega
  refine ⟨_, _, setN σ s.nx b, τ, _, h A S hq, rfl, ⟨⟨hs.heap.kept.below hu, hs.heap.few, fun id el l hl => ?_, fun id α el e enc L hl => ?_, fun p q k h1 h2 => ?_, fun id o hl => ?_, hs.heap.slices, fun id o hl => ?_⟩, hs.defers, hs.size, fun j d hd => (hs.slots j d hd).mono hle, hs.ghost_le (s' := ⟨s.F, (s.nx, .obj (.sep S A)) :: s.H, s.nx + 1, s.G⟩) rfl hle, Nat.le_succ_of_le hs.room⟩, .loc ⟨Nat.lt_succ_self _, by simp [setN]⟩, fun _ => hu.toBelow⟩
  · have hi : id ≠ s.nx := by rintro rfl; rw [lget_same] at hl; cases hl
    rw [lget_ne _ _ hi] at hl
    have e0 : setN σ s.nx b id = σ id := by simp [setN, hi]
    rw [e0]
    obtain ⟨h1, c, h2, h3, h4⟩ := hs.heap.cells id el l hl
    exact ⟨h1, c, (hu.block _ (Array.getElem?_eq_some_iff.1 h2).1).trans h2, h3, fun j d u hd hu => (h4 j d u hd hu).mono hle⟩
  · have hi : id ≠ s.nx := by rintro rfl; rw [lget_same] at hl; cases hl
    rw [lget_ne _ _ hi] at hl
    obtain ⟨h1, xs, h2, h3, h4⟩ := hs.heap.grow id α el e enc L hl
    exact ⟨h1, xs, own_below h2 hu.toBelow, h3, fun p x j d u hx hd hu => (h4 p x j d u hx hd hu).mono hle.still⟩
  · rcases howned p k h1 with ⟨h3, h4⟩ | ⟨h3, h4⟩ <;> rcases howned q k h2 with ⟨h5, h6⟩ | ⟨h5, h6⟩
    · rw [h3, h5]
    · have := (hS k h4).1; have := owned_lt hs.heap h6; omega
    · have := (hS k h6).1; have := owned_lt hs.heap h4; omega
    · exact hs.heap.apart p q k h4 h6
  · by_cases hi : id = s.nx
    · subst hi; exact Nat.lt_succ_self _
    · rw [lget_ne _ _ hi] at hl; exact Nat.lt_succ_of_lt (hs.heap.below id o hl)
  · by_cases hi : id = s.nx
    · subst hi
      rw [lget_same] at hl
      injection hl with hl; injection hl with hl; subst hl
      have e0 : setN σ s.nx b s.nx = b := by simp [setN]
      rw [e0]
      exact ⟨fun k hk => ⟨.inr (Nat.le_trans hs.heap.kept.size (hS k hk).1), (hS k hk).2⟩, SepA.mono A (C := baseCtx w' fun k => ((ctxOf E s.H s.nx σ τ w).ok k ∨ w.heap.size ≤ k) ∧ k < w'.heap.size ∧ ¬ S k) (C' := ctxOf E ((s.nx, .obj (.sep S A)) :: s.H) (s.nx + 1) (setN σ s.nx b) τ w') hR (fun _ _ _ h => h) hle2⟩
    · rw [lget_ne _ _ hi] at hl
      have e0 : setN σ s.nx b id = σ id := by simp [setN, hi]
      rw [e0]
      obtain ⟨h1, h2⟩ := hs.heap.obj id o hl
      exact ⟨fun k hk => ⟨(h1 k hk).1, Nat.lt_of_lt_of_le (h1 k hk).2 hu.size⟩, OA.at_le h2 (fun k hk => hu.block k (h1 k hk).2) hle.still⟩
end
end Go.Proofs.YtcbpdjikdohegaaGreat.V
