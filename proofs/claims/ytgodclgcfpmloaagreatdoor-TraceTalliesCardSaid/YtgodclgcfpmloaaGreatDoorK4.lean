/-
  Clusters of one's own objects as one thing: what holds of a family of objects, in one predicate; contracts with a cluster. Conditions: the table of types says what the program's says; functions are entered; plans are ones.
  Exact pointers and rows: blocks of one's own that are known by their number; laws of what is done with them. Condition: the table of types says what the program's says.
  Values in interfaces, and what they are; append to a row whose capacity is told. Condition: the table of types says what the program's says.
  A string's bytes as a new row (which bears the run-time's mark), written in, and turned back to a string: the row is known by its block. Condition: the table of types says what the program's says.
  copy into an array of one's own. Conditions: the table of types says what the program's says; the row is long enough.
  A row of one's own written over, in a world that is told by its cells. No condition.
  Builders of strings: append of a string to a row of bytes, the bytes of a row as a string (the row is none of one's own any more). Condition: the table of types says what the program's says.
-/
import Derived.Test.YtgodclgcfpmloaaGreatDoorK1
import Derived.Laws.IdiomStrings
import Derived.Laws.IdiomCopy
import Derived.Sort.Row
import Derived.Sort.Grow
import Derived.Lib.AppendStr
import Derived.Lib.UnsafeStr
namespace Go.Proofs.YtgodclgcfpmloaaGreatDoor.V
open Go.RowKit

/-! ### A part of the objects -/
section
variable {P : Program} {tt : TT} {pl : Plans} {s : St} {K : D → St → Prop} {f : FuncId} {args : List D} {E : Env} {H : List (Nat × LO)} {nx : Nat} {σ : Nat → Nat} {τ : Nat → Value} {w : World}

/-! ### Clusters -/
/-! ### New clusters -/
def NewS (P : Program) (f : FuncId) (args : List D) (Q : SepA → Prop) : Prop :=
  hasBody P f ∧ ∀ (w : World) (B : Nat → Prop) (args' : List Value), (∀ b, B b → b < w.heap.size) → reps (baseCtx w B) args args' →
    Calls P f args'.toArray w fun e w' => ∃ b A S, Q A ∧ e = .returned (.pointer (some ⟨b, 0, none⟩)) ∧ Under w.heap.size w w' ∧ (∀ k, S k → w.heap.size ≤ k ∧ k < w'.heap.size) ∧ A.R (baseCtx w' fun k => (B k ∨ w.heap.size ≤ k) ∧ k < w'.heap.size ∧ ¬ S k) b S
theorem NewS.mono {args : List D} {Q Q' : SepA → Prop} (h : NewS P f args Q) (hq : ∀ A, Q A → Q' A) : NewS P f args Q' :=
  ⟨h.1, fun w B args' h1 h2 => (h.2 w B args' h1 h2).mono fun _ _ ⟨b, A, S, q1, q2⟩ => ⟨b, A, S, hq _ q1, q2⟩⟩

theorem CallVC.news {g : Bool} {Q : SepA → Prop} (hf : NewS P f args Q) (hcut : args.all (cutOk 6 0) = true) (h : ∀ A S, Q A → K (.loc s.nx 0) ⟨s.F, (s.nx, .obj (.sep S A)) :: s.H, s.nx + 1, s.G⟩) : CallVC P g f args s K := by
  refine ⟨hf.1, fun E σ τ a w args' hs hr => ?_⟩
  have hr' : reps (baseCtx w (ctxOf E s.H s.nx σ τ w).ok) args args' := ⟨hr.1, fun j d u hd hu => (cut_rep 6 d _ u (all_at hcut hd) (hr.2 j d u hd hu)).mono ⟨fun _ _ _ h => h, fun _ h => h, fun _ _ _ h => absurd h.1 (Nat.not_lt_zero _), fun _ _ h => absurd h.1 (Nat.not_lt_zero _), fun _ _ _ h => absurd h.1 (Nat.not_lt_zero _)⟩⟩
  refine (hf.2 w _ args' (fun b hb => hb.2.1) hr').mono fun e w' hh => ?_
  obtain ⟨b, A, S, hq, rfl, hu, hS, hR⟩ := hh
  have howned : ∀ id k, owned ((s.nx, .obj (.sep S A)) :: s.H) (setN σ s.nx b) τ id k → (id = s.nx ∧ S k) ∨ (id ≠ s.nx ∧ owned s.H σ τ id k) := by
    intro id k ho
    by_cases hi : id = s.nx
    · subst hi
      rcases ho with ⟨_, _, h1, _⟩ | ⟨_, _, _, _, _, h1, _⟩ | ⟨o, h1, h2⟩
      · rw [lget_same] at h1; cases h1
      · rw [lget_same] at h1; cases h1
      · rw [lget_same] at h1
        injection h1 with h1; injection h1 with h1; subst h1
        exact .inl ⟨rfl, h2⟩
    · refine .inr ⟨hi, ?_⟩
      have e0 : setN σ s.nx b id = σ id := by simp [setN, hi]
      rcases ho with ⟨_, _, h1, h2⟩ | ⟨_, _, _, _, _, h1, h2⟩ | ⟨o, h1, h2⟩
      · rw [lget_ne _ _ hi] at h1; rw [e0] at h2; exact .inl ⟨_, _, h1, h2⟩
      · rw [lget_ne _ _ hi] at h1; exact .inr (.inl ⟨_, _, _, _, _, h1, h2⟩)
      · rw [lget_ne _ _ hi] at h1; rw [e0] at h2; exact .inr (.inr ⟨_, h1, h2⟩)
  have hle : (ctxOf E s.H s.nx σ τ w).Le (ctxOf E ((s.nx, .obj (.sep S A)) :: s.H) (s.nx + 1) (setN σ s.nx b) τ w') := by
    refine ⟨fun k o hk ho => (hu.block k hk.2.1).trans ho, fun k hk => ⟨hk.1, Nat.lt_of_lt_of_le hk.2.1 hu.size, fun id ho => ?_⟩, fun id off v hv => ?_, fun id v hv => ⟨Nat.lt_succ_of_lt hv.1, hv.2⟩, fun id off v hv => ⟨Nat.lt_succ_of_lt hv.1, hv.2⟩⟩
    · rcases howned id k ho with ⟨_, h2⟩ | ⟨_, h2⟩
      · have := (hS k h2).1
        have : k < w.heap.size := hk.2.1
        omega
      · exact hk.2.2 id h2
    · obtain ⟨h1, rfl⟩ := hv
      exact ⟨Nat.lt_succ_of_lt h1, by simp [setN, show id ≠ s.nx by omega]⟩
  have hle2 : (baseCtx w' fun k => ((ctxOf E s.H s.nx σ τ w).ok k ∨ w.heap.size ≤ k) ∧ k < w'.heap.size ∧ ¬ S k).Le (ctxOf E ((s.nx, .obj (.sep S A)) :: s.H) (s.nx + 1) (setN σ s.nx b) τ w').still := by
    refine ⟨fun _ _ _ h => h, fun k hk => ?_, fun _ _ _ h => h, fun _ _ h => h, fun _ _ _ h => h⟩
    obtain ⟨hk1, hk2, hk3⟩ := hk
    refine ⟨?_, hk2, fun id ho => ?_⟩
    · rcases hk1 with hk1 | hk1
      · exact hk1.1
      · exact .inr (.inr (Nat.le_trans hs.heap.kept.size hk1))
    · rcases howned id k ho with ⟨_, h2⟩ | ⟨_, h2⟩
      · exact hk3 h2
      · rcases hk1 with hk1 | hk1
        · exact hk1.2.2 id h2
        · have := owned_lt hs.heap h2; omega
  refine ⟨_, _, setN σ s.nx b, τ, _, h A S hq, rfl, ⟨⟨hs.heap.kept.below hu, hs.heap.few, fun id el l hl => ?_, fun id α el e enc L hl => ?_, fun p q k h1 h2 => ?_, fun id o hl => ?_, hs.heap.slices, fun id o hl => ?_⟩, hs.defers, hs.size, fun j d hd => (hs.slots j d hd).mono hle, hs.ghost_le (s' := ⟨s.F, (s.nx, .obj (.sep S A)) :: s.H, s.nx + 1, s.G⟩) rfl hle, Nat.le_succ_of_le hs.room⟩, .loc ⟨Nat.lt_succ_self _, by simp [setN]⟩, fun _ => hu.toBelow⟩
  · have hi : id ≠ s.nx := by rintro rfl; rw [lget_same] at hl; cases hl
    rw [lget_ne _ _ hi] at hl
    have e0 : setN σ s.nx b id = σ id := by simp [setN, hi]
    rw [e0]
    obtain ⟨h1, c, h2, h3, h4⟩ := hs.heap.cells id el l hl
    exact ⟨h1, c, (hu.block _ (Array.getElem?_eq_some_iff.1 h2).1).trans h2, h3, fun j d u hd hu => (h4 j d u hd hu).mono hle⟩
  · have hi : id ≠ s.nx := by rintro rfl; rw [lget_same] at hl; cases hl
    rw [lget_ne _ _ hi] at hl
    obtain ⟨h1, xs, h2, h3, h4⟩ := hs.heap.grow id α el e enc L hl
    exact ⟨h1, xs, own_below h2 hu.toBelow, h3, fun p x j d u hx hd hu => (h4 p x j d u hx hd hu).mono hle.still⟩
  · rcases howned p k h1 with ⟨h3, h4⟩ | ⟨h3, h4⟩ <;> rcases howned q k h2 with ⟨h5, h6⟩ | ⟨h5, h6⟩
    · rw [h3, h5]
    · have := (hS k h4).1; have := owned_lt hs.heap h6; omega
    · have := (hS k h6).1; have := owned_lt hs.heap h4; omega
    · exact hs.heap.apart p q k h4 h6
  · by_cases hi : id = s.nx
    · subst hi; exact Nat.lt_succ_self _
    · rw [lget_ne _ _ hi] at hl; exact Nat.lt_succ_of_lt (hs.heap.below id o hl)
  · by_cases hi : id = s.nx
    · subst hi
      rw [lget_same] at hl
      injection hl with hl; injection hl with hl; subst hl
      have e0 : setN σ s.nx b s.nx = b := by simp [setN]
      rw [e0]
      exact ⟨fun k hk => ⟨.inr (Nat.le_trans hs.heap.kept.size (hS k hk).1), (hS k hk).2⟩, SepA.mono A (C := baseCtx w' fun k => ((ctxOf E s.H s.nx σ τ w).ok k ∨ w.heap.size ≤ k) ∧ k < w'.heap.size ∧ ¬ S k) (C' := ctxOf E ((s.nx, .obj (.sep S A)) :: s.H) (s.nx + 1) (setN σ s.nx b) τ w') hR (fun _ _ _ h => h) hle2⟩
    · rw [lget_ne _ _ hi] at hl
      have e0 : setN σ s.nx b id = σ id := by simp [setN, hi]
      rw [e0]
      obtain ⟨h1, h2⟩ := hs.heap.obj id o hl
      exact ⟨fun k hk => ⟨(h1 k hk).1, Nat.lt_of_lt_of_le (h1 k hk).2 hu.size⟩, OA.at_le h2 (fun k hk => hu.block k (h1 k hk).2) hle.still⟩
end
end Go.Proofs.YtgodclgcfpmloaaGreatDoor.V
namespace Go.Proofs.YtgodclgcfpmloaaGreatDoor.V
open Go.RowKit

def blkR (g : Nat) (o : Obj) (C : Ctx) (b : Nat) (S : Nat → Prop) : Prop := b = g ∧ (∀ k, S k ↔ k = g) ∧ C.w.heap[g]? = some o
def blkA (g : Nat) (o : Obj) : SepA := ⟨blkR g o, fun h hk _ => ⟨h.1, h.2.1, hk _ _ ((h.2.1 _).2 rfl) h.2.2⟩⟩
section
variable {P : Program} {tt : TT} {E : Env} {s : St} {σ : Nat → Nat} {τ : Nat → Value} {a : Act} {w : World}

theorem owned_swap {H : List (Nat × LO)} {id : Nat} {o o' : OA} {j n : Nat} (hid : lget H id = some (.obj o)) (hf : ∀ k, o'.foot (σ id) k → o.foot (σ id) k) (h : owned ((id, .obj o') :: H) σ τ j n) : owned H σ τ j n := by
  by_cases hj : j = id
  · subst hj
    rcases h with ⟨el', l', h1, rfl⟩ | ⟨α, el', e, enc, L, h1, h2⟩ | ⟨o, h1, h2⟩
    · rw [lget_same] at h1; cases h1
    · rw [lget_same] at h1; cases h1
    · rw [lget_same] at h1
      injection h1 with h1; injection h1 with h1; subst h1
      exact .inr (.inr ⟨_, hid, hf _ h2⟩)
  · rcases h with ⟨el', l', h1, rfl⟩ | ⟨α, el', e, enc, L, h1, h2⟩ | ⟨o, h1, h2⟩
    rotate_left 2
    · rw [lget_ne _ _ hj] at h1
      exact .inr (.inr ⟨o, h1, h2⟩)
    · rw [lget_ne _ _ hj] at h1
      exact .inl ⟨el', l', h1, rfl⟩
    · rw [lget_ne _ _ hj] at h1
      exact .inr (.inl ⟨α, el', e, enc, L, h1, h2⟩)

theorem swap_state (hs : SR E s σ τ a w) {id : Nat} {o o' : OA} (hid : lget s.H id = some (.obj o)) (hf : ∀ k, o'.foot (σ id) k → o.foot (σ id) k) (hat : o.at (ctxOf E s.H s.nx σ τ w).still (σ id) → ∀ C : Ctx, C.w = w → o'.at C.still (σ id)) :
    SR E ⟨s.F, (id, .obj o') :: s.H, s.nx, s.G⟩ σ τ a w := by
  have hle : (ctxOf E s.H s.nx σ τ w).Le (ctxOf E ((id, .obj o') :: s.H) s.nx σ τ w) :=
    ⟨fun _ _ _ h => h, fun b hb => ⟨hb.1, hb.2.1, fun j ho => hb.2.2 j (owned_swap hid hf ho)⟩, fun _ _ _ hv => hv, fun _ _ hv => hv, fun _ _ _ hv => hv⟩
  refine ⟨⟨hs.heap.kept, hs.heap.few, fun j el' l2 h => ?_, fun j α el' e enc L h => ?_, fun i j b h1 h2 => hs.heap.apart i j b (owned_swap hid hf h1) (owned_swap hid hf h2), fun j o h => ?_, hs.heap.slices, fun j o2 h => ?_⟩, hs.defers, hs.size, fun i d h => (hs.slots i d h).mono hle, hs.ghost_le rfl hle, hs.room⟩
  · have hj : j ≠ id := by rintro rfl; rw [lget_same] at h; cases h
    rw [lget_ne _ _ hj] at h
    obtain ⟨h1, c, h2, h3, h4⟩ := hs.heap.cells j el' l2 h
    exact ⟨h1, c, h2, h3, fun j d u hd hu => (h4 j d u hd hu).mono hle⟩
  · have hj : j ≠ id := by rintro rfl; rw [lget_same] at h; cases h
    rw [lget_ne _ _ hj] at h
    obtain ⟨h1, xs, h2, h3, h4⟩ := hs.heap.grow j α el' e enc L h
    exact ⟨h1, xs, h2, h3, fun i x j d u hx hd hu => (h4 i x j d u hx hd hu).mono hle.still⟩
  · by_cases hj : j = id
    · subst hj; exact hs.heap.below j _ hid
    · rw [lget_ne _ _ hj] at h; exact hs.heap.below j o h
  · by_cases hj : j = id
    · subst hj
      rw [lget_same] at h
      injection h with h; injection h with h; subst h
      obtain ⟨h1, h2⟩ := hs.heap.obj j o hid
      exact ⟨fun k hk => h1 k (hf k hk), hat h2 _ rfl⟩
    · rw [lget_ne _ _ hj] at h
      obtain ⟨h1, h2⟩ := hs.heap.obj j o2 h
      exact ⟨h1, OA.at_mono h2 (fun _ _ => rfl) (Nat.le_refl _) hle.still⟩

theorem blk_at (hs : SR E s σ τ a w) {id g : Nat} {S : Nat → Prop} {o : Obj} (hid : lget s.H id = some (.obj (.sep S (blkA g o)))) : w.heap[g]? = some o ∧ σ id = g :=
  ⟨(hs.heap.obj id _ hid).2.2.2, (hs.heap.obj id _ hid).2.1⟩

theorem pv_len (htt : ttOk P tt) {x : Operand} {t e : TypeId} {sz by_ : Nat} {z : List Value} {ad : Addr} {n c : Nat} {K : D → Prop} {o : Op} (ho : o = .call { callee := .builtin .len, args := #[x], argTypes := #[t] }) (hx : evD s x = .v (.slice (some ad) n c)) (ht : tfind tt t = some ⟨.slice e, sz, by_, z⟩) (hk : K (.v (.int .i64 n))) : PureVC P s o K := by
  refine ⟨fun o' ho' E σ τ a w hs => ?_⟩
  obtain ⟨de, i, zv, k1, _, _, k4, _⟩ := view_spec (tfind_view htt ht)
  have := ud_slice k4; subst this
  have hv := evD_rep hs x
  rw [hx] at hv
  have hv := rep_v hv
  refine ⟨_, _, hk, .v, fun w' _ => ?_⟩
  simp [execOp, ho', ho, resolve, invoke, builtin, hv, Builtin.len_, run_und k1, goInt]

theorem pv_index (htt : ttOk P tt) {x y : Operand} {t e : TypeId} {sz by_ : Nat} {z : List Value} {ti : TI} {g p n c : Nat} {ik : IntKind} {m : Int} {K : D → Prop} (hx : evD s x = .v (.slice (some ⟨g, p, none⟩) n c)) (hy : evD s y = .v (.int ik m)) (ht : tfind tt t = some ⟨.slice e, sz, by_, z⟩) (he : tfind tt e = some ti)
    (h0 : 0 ≤ m) (h1 : m < (n : Int)) (hk : K (.v (.pointer (some ⟨g, p + m.toNat * ti.size, none⟩)))) : PureVC P s (.indexAddr t x y) K := by
  refine ⟨fun o' ho' E σ τ a w hs => ?_⟩
  obtain ⟨de, i, zv, k1, _, _, k4, _⟩ := view_spec (tfind_view htt ht)
  have := ud_slice k4; subst this
  obtain ⟨_, q, _, _, q2, _, _, q5, _⟩ := view_spec (tfind_view htt he)
  have hv := evD_rep hs x
  rw [hx] at hv
  have hv := rep_v hv
  have hw := evD_rep hs y
  rw [hy] at hw
  have hw := rep_v hw
  refine yields_of (s := Instr.indexAt t (a.eval x) (a.eval y)) (by simp only [execOp, ho']) ⟨_, _, hk, .v, fun w' => ?_⟩
  rw [hv, hw, index_slice_run k1 q2 h0 h1, q5]

theorem setBlk_state (hs : SR E s σ τ a w) {id g : Nat} {S : Nat → Prop} {o : Obj} (hid : lget s.H id = some (.obj (.sep S (blkA g o)))) (o' : Obj) :
    SR E ⟨s.F, (id, .obj (.sep S (blkA g o'))) :: s.H, s.nx, s.G⟩ σ τ a { w with heap := w.heap.setIfInBounds g o' } := by
  obtain ⟨hb, hσ⟩ := blk_at hs hid
  have hS : ∀ k, S k ↔ k = g := (hs.heap.obj id _ hid).2.2.1
  have h1 : SR E ⟨s.F, (id, .obj (.ob o)) :: s.H, s.nx, s.G⟩ σ τ a w := swap_state (o' := .ob o) hs hid (fun k hk => (hS k).2 (by rw [← hσ]; exact hk)) fun _ C hC => by show C.w.heap[σ id]? = _; rw [hC, hσ]; exact hb
  have h2 := setObj_state h1 (lget_same _ _ _) o'
  rw [hσ] at h2
  have h3 := swap_state (o' := .sep S (blkA g o')) h2 (lget_same _ _ _) (fun k hk => by show k = σ id; rw [hσ]; exact (hS k).1 hk) fun _ C hC => ⟨hσ, hS, by
    rw [show C.still.w = C.w from rfl, hC]
    have : g < w.heap.size := (Array.getElem?_eq_some_iff.1 hb).1
    show (w.heap.setIfInBounds g o')[g]? = _
    simp [this]⟩
  have drop2 : ∀ {H : List (Nat × LO)} {x y : LO} {F : List (Nat × D)} {nx : Nat} {G : List Nat × Nat} {w : World}, SR E ⟨F, (id, x) :: (id, y) :: H, nx, G⟩ σ τ a w → SR E ⟨F, (id, x) :: H, nx, G⟩ σ τ a w := by
    intro H x y F nx G w h
    have hl : ∀ j, lget ((id, x) :: (id, y) :: H) j = lget ((id, x) :: H) j := fun j => by
      by_cases hj : j = id
      · subst hj; rw [lget_same, lget_same]
      · rw [lget_ne _ _ hj, lget_ne _ _ hj, lget_ne _ _ hj]
    have ho : ∀ j k, owned ((id, x) :: H) σ τ j k ↔ owned ((id, x) :: (id, y) :: H) σ τ j k := fun j k => by unfold owned; rw [hl]
    have hc : ctxOf E ((id, x) :: (id, y) :: H) nx σ τ w = ctxOf E ((id, x) :: H) nx σ τ w := by unfold ctxOf; simp only [ho]
    have hh := h.heap
    refine ⟨⟨hh.kept, hh.few, fun j el l hj => ?_, fun j α el e enc L hj => ?_, fun i j k h1 h2 => hh.apart i j k ((ho _ _).1 h1) ((ho _ _).1 h2), fun j o hj => hh.below j o ((hl j).trans hj), hh.slices, fun j o hj => ?_⟩, h.defers, h.size, fun j d hd => ?_, fun G d v hx => ?_, h.room⟩
    · have := hh.cells j el l ((hl j).trans hj); rw [hc] at this; exact this
    · have := hh.grow j α el e enc L ((hl j).trans hj); rw [hc] at this; exact this
    · have := hh.obj j o ((hl j).trans hj); rw [hc] at this; exact this
    · have := h.slots j d hd; rw [hc] at this; exact this
    · have := h.ghost G d v hx; rw [hc] at this; exact this
  exact drop2 (drop2 h3)

theorem newBlk_state (hs : SR E s σ τ a w) (o : Obj) : SR E ⟨s.F, (s.nx, .obj (.sep (fun k => k = w.heap.size) (blkA w.heap.size o))) :: s.H, s.nx + 1, s.G⟩ (setN σ s.nx w.heap.size) τ a (w.alloc o) := by
  have h1 := allocObj_state hs o
  have e0 : setN σ s.nx w.heap.size s.nx = w.heap.size := by simp [setN]
  have h2 := swap_state (o' := .sep (fun k => k = w.heap.size) (blkA w.heap.size o)) h1 (lget_same _ _ _) (fun k hk => by show k = setN σ s.nx w.heap.size s.nx; rw [e0]; exact hk) fun _ C hC => ⟨e0, fun _ => Iff.rfl, by
    rw [show C.still.w = C.w from rfl, hC]
    show (w.heap.push _)[w.heap.size]? = _
    simp⟩
  have hl : ∀ (x y : LO) j, lget ((s.nx, x) :: (s.nx, y) :: s.H) j = lget ((s.nx, x) :: s.H) j := fun x y j => by
    by_cases hj : j = s.nx
    · subst hj; rw [lget_same, lget_same]
    · rw [lget_ne _ _ hj, lget_ne _ _ hj, lget_ne _ _ hj]
  revert h2
  generalize (LO.obj (.sep (fun k => k = w.heap.size) (blkA w.heap.size o))) = x
  intro h
  have hl := hl x (.obj (.ob o))
  have ho : ∀ j k, owned ((s.nx, x) :: s.H) (setN σ s.nx w.heap.size) τ j k ↔ owned ((s.nx, x) :: (s.nx, .obj (.ob o)) :: s.H) (setN σ s.nx w.heap.size) τ j k := fun j k => by unfold owned; rw [hl]
  have hc : ctxOf E ((s.nx, x) :: (s.nx, .obj (.ob o)) :: s.H) (s.nx + 1) (setN σ s.nx w.heap.size) τ (w.alloc o) = ctxOf E ((s.nx, x) :: s.H) (s.nx + 1) (setN σ s.nx w.heap.size) τ (w.alloc o) := by unfold ctxOf; simp only [ho]
  have hh := h.heap
  refine ⟨⟨hh.kept, hh.few, fun j el l hj => ?_, fun j α el e enc L hj => ?_, fun i j k h1 h2 => hh.apart i j k ((ho _ _).1 h1) ((ho _ _).1 h2), fun j o hj => hh.below j o ((hl j).trans hj), hh.slices, fun j o hj => ?_⟩, h.defers, h.size, fun j d hd => ?_, fun G d v hx => ?_, h.room⟩
  · have := hh.cells j el l ((hl j).trans hj); rw [hc] at this; exact this
  · have := hh.grow j α el e enc L ((hl j).trans hj); rw [hc] at this; exact this
  · have := hh.obj j o ((hl j).trans hj); rw [hc] at this; exact this
  · have := h.slots j d hd; rw [hc] at this; exact this
  · have := h.ghost G d v hx; rw [hc] at this; exact this

end
end Go.Proofs.YtgodclgcfpmloaaGreatDoor.V
namespace Go.Proofs.YtgodclgcfpmloaaGreatDoor.V
open Go.RowKit

section
variable {P : Program} {tt : TT} {E : Env} {s : St} {σ : Nat → Nat} {τ : Nat → Value} {a : Act} {w : World}

theorem op_makeIface (htt : ttOk P tt) {g : Bool} {o : Oper} {x : Operand} {t : TypeId} {fs : List (Nat × TypeId)} {sz by_ : Nat} {zz : List Value} (ho : o.op = .makeInterface t x) (ht : tfind tt t = some ⟨.struct fs, sz, by_, zz⟩) {K : D → St → Prop} (h : K (.iface t (evD s x)) s) : OpVC P g o s K := by
  intro E σ τ a w hs next Q hn
  obtain ⟨de, i, z, k1, _, _, k4, _⟩ := view_spec (tfind_view htt ht)
  obtain ⟨f, rfl, _⟩ := ud_struct k4
  have hexec : (execOp a.eval o).run P w = .ok (.value (.iface t (a.eval x))) w := by
    simp [execOp, ho, Instr.makeInterface, run_underlying k1]
  unfold Oper.wp
  rw [hexec]
  exact hn _ _ σ τ _ _ h hs (.iface (evD_rep hs x)) (fun _ => Below.refl _ _)
theorem op_assertNil (htt : ttOk P tt) {g : Bool} {o : Oper} {x : Operand} {xt t : TypeId} {fs : List (Nat × TypeId)} {sz by_ : Nat} {zz : List Value} {zv : Array Value} (ho : o.op = .typeAssert x xt t true) (ht : tfind tt t = some ⟨.struct fs, sz, by_, zz⟩) (hz : (P.info? t).bind (fun i => i.zero) = some (.agg zv))
    (hx : evD s x = .v .nilIface) {K : D → St → Prop} (h : K (.tup [.agg (zv.toList.map .v), .v (.bool false)]) s) : OpVC P g o s K := by
  intro E σ τ a w hs next Q hn
  obtain ⟨de, i, z, k1, k2, k3, k4, _⟩ := view_spec (tfind_view htt ht)
  obtain ⟨f, rfl, _⟩ := ud_struct k4
  have hxr := evD_rep hs x
  rw [hx] at hxr
  have hv : a.eval x = .nilIface := rep_v hxr
  have hz' : z = .agg zv := by
    rw [k2] at hz
    simp only [Option.bind_some] at hz
    rw [k3] at hz
    injection hz
  subst hz'
  have hexec : (execOp a.eval o).run P w = .ok (.value (.tuple #[.agg zv, .bool false])) w := by
    simp [execOp, ho, Instr.typeAssert, run_underlying k1, hv, zero_run k2 k3]
  unfold Oper.wp
  rw [hexec]
  refine hn _ _ σ τ _ _ h hs (.tup rfl fun j d u hd hu => ?_) (fun _ => Below.refl _ _)
  match j, hd, hu with
  | 0, hd, hu =>
    obtain rfl : _ = d := by simpa using hd
    obtain rfl : _ = u := by simpa using hu
    refine .agg (by simp) fun j d u hd hu => ?_
    rw [List.getElem?_map] at hd
    have hu : zv.toList[j]? = some u := by simpa using hu
    rw [hu] at hd
    obtain rfl : _ = d := by simpa using hd
    exact .v
  | 1, hd, hu =>
    obtain rfl : _ = d := by simpa using hd
    obtain rfl : _ = u := by simpa using hu
    exact .v
  | j + 2, hd, hu => simp at hd
theorem op_assertIs (htt : ttOk P tt) {g : Bool} {o : Oper} {x : Operand} {xt t : TypeId} {fs : List (Nat × TypeId)} {sz by_ : Nat} {zz : List Value} {d0 : D} (ho : o.op = .typeAssert x xt t true) (ht : tfind tt t = some ⟨.struct fs, sz, by_, zz⟩)
    (hx : evD s x = .iface t d0) {K : D → St → Prop} (h : K (.tup [d0, .v (.bool true)]) s) : OpVC P g o s K := by
  intro E σ τ a w hs next Q hn
  obtain ⟨de, i, z, k1, k2, k3, k4, _⟩ := view_spec (tfind_view htt ht)
  obtain ⟨f, rfl, _⟩ := ud_struct k4
  have hxr := evD_rep hs x
  rw [hx] at hxr
  generalize hv : a.eval x = u0 at hxr
  cases hxr with
  | iface hd0 =>
    rename_i v0
    have hexec : (execOp a.eval o).run P w = .ok (.value (.tuple #[v0, .bool true])) w := by
      simp [execOp, ho, Instr.typeAssert, run_underlying k1, hv]
    unfold Oper.wp
    rw [hexec]
    refine hn _ _ σ τ _ _ h hs (.tup rfl fun j d u hd hu => ?_) (fun _ => Below.refl _ _)
    match j, hd, hu with
    | 0, hd, hu =>
      obtain rfl : _ = d := by simpa using hd
      obtain rfl : _ = u := by simpa using hu
      exact hd0
    | 1, hd, hu =>
      obtain rfl : _ = d := by simpa using hd
      obtain rfl : _ = u := by simpa using hu
      exact .v
    | j + 2, hd, hu => simp at hd
theorem op_assertNot (htt : ttOk P tt) {g : Bool} {o : Oper} {x : Operand} {xt t t' : TypeId} {fs : List (Nat × TypeId)} {sz by_ : Nat} {zz : List Value} {zv : Array Value} {d0 : D} (ho : o.op = .typeAssert x xt t true) (ht : tfind tt t = some ⟨.struct fs, sz, by_, zz⟩) (hz : (P.info? t).bind (fun i => i.zero) = some (.agg zv))
    (hx : evD s x = .iface t' d0) (hne : t' ≠ t) {K : D → St → Prop} (h : K (.tup [.agg (zv.toList.map .v), .v (.bool false)]) s) : OpVC P g o s K := by
  intro E σ τ a w hs next Q hn
  obtain ⟨de, i, z, k1, k2, k3, k4, _⟩ := view_spec (tfind_view htt ht)
  obtain ⟨f, rfl, _⟩ := ud_struct k4
  have hxr := evD_rep hs x
  rw [hx] at hxr
  generalize hv : a.eval x = u0 at hxr
  have hz' : z = .agg zv := by
    rw [k2] at hz
    simp only [Option.bind_some] at hz
    rw [k3] at hz
    injection hz
  subst hz'
  cases hxr with
  | iface hd0 =>
    rename_i v0
    have hexec : (execOp a.eval o).run P w = .ok (.value (.tuple #[.agg zv, .bool false])) w := by
      simp [execOp, ho, Instr.typeAssert, run_underlying k1, hv, hne, zero_run k2 k3]
    unfold Oper.wp
    rw [hexec]
    refine hn _ _ σ τ _ _ h hs (.tup rfl fun j d u hd hu => ?_) (fun _ => Below.refl _ _)
    match j, hd, hu with
    | 0, hd, hu =>
      obtain rfl : _ = d := by simpa using hd
      obtain rfl : _ = u := by simpa using hu
      refine .agg (by simp) fun j d u hd hu => ?_
      rw [List.getElem?_map] at hd
      have hu : zv.toList[j]? = some u := by simpa using hu
      rw [hu] at hd
      obtain rfl : _ = d := by simpa using hd
      exact .v
    | 1, hd, hu =>
      obtain rfl : _ = d := by simpa using hd
      obtain rfl : _ = u := by simpa using hu
      exact .v
    | j + 2, hd, hu => simp at hd
end
end Go.Proofs.YtgodclgcfpmloaaGreatDoor.V
namespace Go.Proofs.YtgodclgcfpmloaaGreatDoor.V
open Go.RowKit

def mrkO (el : TypeId) (cur : List Value) : Obj := .cells cur.toArray el (cur.length, cur.length + 1)
theorem mrkO_cells {w : World} {g : Nat} {el : TypeId} {cur : List Value} (h : w.heap[g]? = some (mrkO el cur)) {o : Nat} {v : Value} (hv : cur[o]? = some v) : w.cell? ⟨g, o, none⟩ = some v := by
  simp only [World.cell?, h, mrkO]
  simpa using hv
theorem mrkO_free {w : World} {g : Nat} {el : TypeId} {cur : List Value} (h : w.heap[g]? = some (mrkO el cur)) {o : Nat} (ho : o < cur.length) : w.frozen? ⟨g, o, none⟩ = false := by
  simp only [World.frozen?, h, mrkO]
  simp
  omega
theorem setCell_mrk {w : World} {g o : Nat} {el : TypeId} {cur : List Value} {v : Value} (h : w.heap[g]? = some (mrkO el cur)) : w.setCell ⟨g, o, none⟩ v = { w with heap := w.heap.setIfInBounds g (mrkO el (cur.set o v)) } := by
  have hlt : g < w.heap.size := (Array.getElem?_eq_some_iff.1 h).1
  have hg : w.heap[g] = mrkO el cur := by simpa [Array.getElem?_eq_getElem hlt] using h
  unfold World.setCell
  congr 1
  apply Array.ext_getElem?
  intro i
  rw [Array.getElem?_modify, Array.getElem?_setIfInBounds]
  by_cases hi : g = i
  · subst hi
    simp only [if_true, h, Option.map_some, hlt, mrkO, Option.isSome_none, Bool.false_eq_true, if_false, List.length_set]
    congr 2
    apply Array.ext'
    simp
  · simp only [hi, if_false]
def bytesL (l : List Nat) (cap : Nat) : List Value := l.map (fun n : Nat => Value.int .u8 (n : Int)) ++ List.replicate (cap - l.length) (.int .u8 0)
theorem bytesRow_eq {l : List Nat} (hl : Byt l) (cap : Nat) : bytesRow (strB l) cap = (bytesL l cap).toArray := by
  apply Array.ext'
  unfold bytesRow bytesL
  rw [strB_size]
  simp only [Array.toList_append, Array.toList_map, Array.toList_replicate]
  congr 1
  rw [strB_data, List.map_map]
  refine List.map_congr_left fun n hn => ?_
  show Value.int .u8 ((UInt8.ofNat n).toNat : Int) = _
  rw [UInt8.toNat_ofNat', Nat.mod_eq_of_lt (hl n hn)]

section
variable {P : Program} {tt : TT} {s : St}

theorem op_strBytes (htt : ttOk P tt) {o : Oper} {t u e : TypeId} {x : Operand} {l : List Nat} {a1 a2 a3 b1 b2 b3 c1 c2 c3} (ho : o.op = .convert t u x) (ht : tfind tt t = some ⟨.str, c1, c2, c3⟩) (hu : tfind tt u = some ⟨.slice e, a1, a2, a3⟩) (he : tfind tt e = some ⟨.int .u8, b1, b2, b3⟩)
    (hx : evD s x = .v (.string (strB l))) (hl : Byt l) {K : D → St → Prop}
    (h : ∀ (g cap : Nat) (S : Nat → Prop), l.length ≤ cap → K (.v (.slice (some ⟨g, 0, none⟩) l.length cap)) ⟨s.F, (s.nx, .obj (.sep S (blkA g (mrkO e (bytesL l cap))))) :: s.H, s.nx + 1, s.G⟩) : OpVC P false o s K := by
  intro E σ τ a w hs next Q hn
  obtain ⟨_, _, _, k1, _, _, k4, _⟩ := view_spec (tfind_view htt ht)
  have := ud_str k4; subst this
  obtain ⟨_, _, _, q1, _, _, q4, _⟩ := view_spec (tfind_view htt he)
  have := ud_int q4; subst this
  obtain ⟨_, _, _, r1, _, _, r4, _⟩ := view_spec (tfind_view htt hu)
  have := ud_slice r4; subst this
  have hxr := evD_rep hs x
  rw [hx] at hxr
  have hxv := rep_v hxr
  have hc := run_bytes_of_string (P := P) w t u e (strB l) k1 r1 q1
  have hcap : l.length ≤ grownCap w (strB l).size 0 e := by have := grownCap_ge w (strB l).size 0 e; rw [strB_size] at this ⊢; exact this
  rw [bytesRow_eq hl, List.size_toArray] at hc
  unfold Oper.wp
  have hexec : (execOp a.eval o).run P w = .ok (.value (.slice (some ⟨w.heap.size, 0, none⟩) l.length (grownCap w (strB l).size 0 e))) (w.drew.alloc (mrkO e (bytesL l (grownCap w (strB l).size 0 e)))) := by
    rw [strB_size] at hc ⊢
    simp [execOp, ho, hxv, hc, mrkO]
  rw [hexec]
  exact hn _ _ _ _ _ _ (h _ _ _ hcap) (newBlk_state (drew_state hs) _) .v (fun h => by cases h)

theorem pv_loadM (htt : ttOk P tt) {x : Operand} {t : TypeId} {ti : TI} {g p id : Nat} {S : Nat → Prop} {el : TypeId} {cur : List Value} {v : Value} {K : D → Prop} (hx : evD s x = .v (.pointer (some ⟨g, p, none⟩))) (ht : tfind tt t = some ti) (hr : ti.ud.isRow = false)
    (hid : lget s.H id = some (.obj (.sep S (blkA g (mrkO el cur))))) (hv : cur[p]? = some v) (hk : K (.v v)) : PureVC P s (.load t x) K := by
  refine ⟨fun o' ho' E σ τ a w hs => ?_⟩
  have hxv := evD_rep hs x
  rw [hx] at hxv
  have hxv := rep_v hxv
  have hc := mrkO_cells (blk_at hs hid).1 hv
  have hof : ofCellsD ti [.v v] = some (.v v) := by unfold ofCellsD; rw [hr]
  obtain ⟨v', h1, h2⟩ := load_run (P := P) (C := ctxOf E s.H s.nx σ τ w) (b := g) (o := p) (tfind_view htt ht) (reps_cons .v reps_nil) hof
  have h1 := rep_v h1
  subst h1
  refine ⟨_, _, hk, .v, fun w' hw' => ?_⟩
  rcases hw' with hw' | hw'
  · rw [ho'] at hw'; cases hw'
  have h3 := h2 w' fun j u hj => by
    cases j with
    | zero =>
      simp only [List.getElem?_cons_zero, Option.some.injEq] at hj
      subst hj
      exact hw'.1 _ _ _ hc
    | succ j => simp at hj
  simp [execOp, ho', hxv, h3]

theorem op_storeM (htt : ttOk P tt) {o : Oper} {x y : Operand} {t : TypeId} {g p id : Nat} {S : Nat → Prop} {el : TypeId} {cur : List Value} {n : Int} {b1 b2 b3} (ho : o.op = .store t x y) (hx : evD s x = .v (.pointer (some ⟨g, p, none⟩))) (ht : tfind tt t = some ⟨.int .u8, b1, b2, b3⟩) (h1 : b1 = 1)
    (hid : lget s.H id = some (.obj (.sep S (blkA g (mrkO el cur))))) (hp : p < cur.length) (hy : evD s y = .v (.int .u8 n)) {K : D → St → Prop} (h : K (.v undef) ⟨s.F, (id, .obj (.sep S (blkA g (mrkO el (cur.set p (.int .u8 n)))))) :: s.H, s.nx, s.G⟩) : OpVC P false o s K := by
  intro E σ τ a w hs next Q hn
  obtain ⟨_, q, zv, k1, q2, q3, _, q5, _⟩ := view_spec (tfind_view htt ht)
  have hxv := evD_rep hs x
  rw [hx] at hxv
  have hxv := rep_v hxv
  have hyv := evD_rep hs y
  rw [hy] at hyv
  have hyv := rep_v hyv
  obtain ⟨hblk, hσ⟩ := blk_at hs hid
  unfold Oper.wp
  have hcell : ∃ u, w.cell? ⟨g, p, none⟩ = some u := ⟨_, mrkO_cells hblk (List.getElem?_eq_getElem hp)⟩
  have hst : (storeCells ⟨g, p, none⟩ [Value.int .u8 n] 0).run P w = .ok () { w with heap := w.heap.setIfInBounds g (mrkO el (cur.set p (.int .u8 n))) } := by
    rw [← setCell_mrk hblk]
    simp only [storeCells, Sem.run_bind, addr_add, Nat.add_zero, store_one (v := .int .u8 n) rfl hcell (mrkO_free hblk hp), Result.andThen_ok, Sem.run_pure]
  have hexec : (execOp a.eval o).run P w = .ok .skip { w with heap := w.heap.setIfInBounds g (mrkO el (cur.set p (.int .u8 n))) } := by
    have hsz : (Value.int .u8 n).cells.size = q.size := by rw [q5, h1]; rfl
    have hcl : (Value.int .u8 n).cells.toList = [Value.int .u8 n] := rfl
    simp only [execOp, ho, Instr.storeAt, Sem.run_bind, hxv, hyv, Instr.sureAddr, Sem.run_pure, Result.andThen_ok, storeVar, run_size q2, hsz, ne_eq, not_true_eq_false, if_false, hcl, hst]
  rw [hexec]
  exact hn _ _ _ _ undef _ h (setBlk_state hs hid _) .v (fun hg => by cases hg)
theorem op_bytesM (htt : ttOk P tt) {o : Oper} {t u e : TypeId} {x : Operand} {g cap id : Nat} {S : Nat → Prop} {el : TypeId} {cur : List Value} {l : List Nat} {a1 a2 a3 b1 b2 b3 c1 c2 c3} (ho : o.op = .convert t u x) (ht : tfind tt t = some ⟨.slice e, a1, a2, a3⟩) (he : tfind tt e = some ⟨.int .u8, b1, b2, b3⟩) (hu : tfind tt u = some ⟨.str, c1, c2, c3⟩)
    (hx : evD s x = .v (.slice (some ⟨g, 0, none⟩) l.length cap)) (hid : lget s.H id = some (.obj (.sep S (blkA g (mrkO el cur))))) (hl : Byt l) (hv : ∀ (j : Nat) n, l[j]? = some n → cur[j]? = some (.int .u8 n)) {K : D → St → Prop} (h : K (.v (.string (strB l))) s) : OpVC P false o s K := by
  intro E σ τ a w hs next Q hn
  obtain ⟨_, _, _, k1, _, _, k4, _⟩ := view_spec (tfind_view htt ht)
  have := ud_slice k4; subst this
  obtain ⟨_, _, _, q1, _, _, q4, _⟩ := view_spec (tfind_view htt he)
  have := ud_int q4; subst this
  obtain ⟨_, _, _, r1, _, _, r4, _⟩ := view_spec (tfind_view htt hu)
  have := ud_str r4; subst this
  have hxr := evD_rep hs x
  rw [hx] at hxr
  have hxv := rep_v hxr
  have hblk := (blk_at hs hid).1
  have hll : (l.map UInt8.ofNat).length = l.length := List.length_map _
  have hc := run_convert_bytes_back (P := P) w t u e ⟨g, 0, none⟩ cap (l.map UInt8.ofNat) k1 q1 r1 (fun j hj => by
    rw [hll] at hj
    have h1 := hv j l[j] (List.getElem?_eq_getElem hj)
    rw [addr_add, Nat.zero_add, mrkO_cells hblk h1, List.getElem_map, UInt8.toNat_ofNat', Nat.mod_eq_of_lt (hl _ (List.getElem_mem hj))])
  rw [hll] at hc
  unfold Oper.wp
  have hexec : (execOp a.eval o).run P w = .ok (.value (.string (strB l))) w := by
    simp only [execOp, ho, hxv, Sem.run_bind, hc, Result.andThen]
    rfl
  rw [hexec]
  exact hn _ _ _ _ _ _ h hs .v (fun h => by cases h)
end
end Go.Proofs.YtgodclgcfpmloaaGreatDoor.V
namespace Go.Proofs.YtgodclgcfpmloaaGreatDoor.V
open Go.RowKit
section
variable {P : Program} {tt : TT} {s : St}

theorem op_copy (htt : ttOk P tt) {o : Oper} {t u el elT : TypeId} {a1 a2 a3 ti} {x y : Operand} {id off n : Nat} {α : Type} {enc : α → List D} {L : List α} {l l' : List D} (ho : o.op = .call { callee := .builtin .copy, args := #[x, y], argTypes := #[t, u] })
    (hx : evD s x = .asl id off n) (hy : evD s y = .rows α 1 enc L) (ht : tfind tt t = some ⟨.slice el, a1, a2, a3⟩) (he : tfind tt el = some ti) (hs1 : ti.size = 1) (hid : lget s.H id = some (.cells elT l)) (hones : ∀ x, onesD (enc x) = true) (hn0 : 0 < n) (hn : n ≤ L.length)
    (hput : putD l off ((L.take n).flatMap enc) = some l') {K : D → St → Prop} (h : K (.v (.int .i64 n)) ⟨s.F, (id, .cells elT l') :: s.H, s.nx, s.G⟩) : OpVC P false o s K := by
  intro E σ τ a w hs next Q hnx
  obtain ⟨de, i, z, k1, _, _, k4, _⟩ := view_spec (tfind_view htt ht)
  have := ud_slice k4; subst this
  obtain ⟨_, q, _, _, q2, _, _, q5, _⟩ := view_spec (tfind_view htt he)
  have hxr := evD_rep hs x
  rw [hx] at hxr
  have hyr := evD_rep hs y
  rw [hy] at hyr
  generalize hpx : a.eval x = px at hxr
  generalize hpy : a.eval y = py at hyr
  cases hxr with
  | asl hloc =>
  obtain ⟨_, hp⟩ := hloc
  injection hp with hp
  subst hp
  cases hyr with
  | rows b bo g hc hpp hl hcell hrep =>
  rename_i p c
  have hne : L ≠ [] := by rintro rfl; simp at hn; omega
  obtain ⟨rfl, hok⟩ := hpp hne
  have hone : ∀ x, x ∈ L → ∃ d, enc x = [d] := by
    intro x hx
    obtain ⟨j, hj⟩ := List.getElem?_of_mem hx
    have := hl j x hj
    match enc x, this with
    | [d], _ => exact ⟨d, rfl⟩
  let vs : List Value := (List.range n).map fun j => g j 0
  have hvl : vs.length = n := by simp [vs]
  have hvg : ∀ j, j < n → vs[j]? = some (g j 0) := fun j hj => by simp [vs, hj]
  have hfl : ∀ (M : List α), (∀ x, x ∈ M → x ∈ L) → (M.flatMap enc).length = M.length ∧ ∀ (j : Nat) (x : α) (d : D), M[j]? = some x → enc x = [d] → (M.flatMap enc)[j]? = some d := by
    intro M
    induction M with
    | nil => exact fun _ => ⟨rfl, fun j x d hx => by simp at hx⟩
    | cons m M ih =>
      intro hM
      obtain ⟨h1, h2⟩ := ih fun x hx => hM x (List.mem_cons_of_mem _ hx)
      obtain ⟨d0, hd0⟩ := hone m (hM m List.mem_cons_self)
      refine ⟨by rw [List.flatMap_cons, hd0, List.singleton_append, List.length_cons, h1, List.length_cons], fun j x d hx hd => ?_⟩
      rw [List.flatMap_cons, hd0, List.singleton_append]
      cases j with
      | zero =>
        simp only [List.getElem?_cons_zero, Option.some.injEq] at hx ⊢
        subst hx
        rw [hd0] at hd
        injection hd
      | succ j => simpa using h2 j x d (by simpa using hx) hd
  obtain ⟨f1, f2⟩ := hfl (L.take n) fun x hx => List.mem_of_mem_take hx
  have f1 : ((L.take n).flatMap enc).length = n := by rw [f1, List.length_take]; omega
  have hat : ∀ j, j < n → ∃ x d, L[j]? = some x ∧ enc x = [d] ∧ ((L.take n).flatMap enc)[j]? = some d := by
    intro j hj
    have hx : L[j]? = some L[j] := List.getElem?_eq_getElem (by omega)
    obtain ⟨d, hd⟩ := hone _ (List.mem_of_getElem? hx)
    exact ⟨_, d, hx, hd, f2 j _ d (by rw [List.getElem?_take_of_lt hj]; exact hx) hd⟩
  have hstill : (ctxOf E s.H s.nx σ τ w).still.Le (ctxOf E s.H s.nx σ τ w) := Ctx.still_le _
  have hcr : reps (ctxOf E s.H s.nx σ τ w) ((L.take n).flatMap enc) vs := by
    refine ⟨by rw [hvl, f1], fun j d v hd hv => ?_⟩
    have hj : j < n := by have := (List.getElem?_eq_some_iff.1 hd).1; omega
    obtain ⟨x, d', h1, h2, h3⟩ := hat j hj
    rw [hd] at h3
    injection h3 with h3
    subst h3
    rw [hvg j hj] at hv
    injection hv with hv
    subst hv
    exact (hrep j x 0 d h1 (by rw [h2]; rfl)).mono hstill
  have hsrc : ∀ j v, vs[j]? = some v → w.cell? ((⟨b, bo, none⟩ : Addr).add j) = some v := by
    intro j v hv
    have hj : j < n := by have := (List.getElem?_eq_some_iff.1 hv).1; omega
    obtain ⟨x, d, h1, h2, _⟩ := hat j hj
    rw [hvg j hj] at hv
    injection hv with hv
    subst hv
    have := hcell j x 0 d h1 (by rw [h2]; rfl)
    rw [show bo + j * 1 + 0 = bo + j by omega] at this
    rw [addr_add]
    exact this
  have hload := run_loadCells_list (P := P) w ⟨b, bo, none⟩ vs hsrc
  have hones' : onesD ((L.take n).flatMap enc) = true := by
    have key : ∀ M : List α, (∀ x, x ∈ M → x ∈ L) → onesD (M.flatMap enc) = true := by
      intro M
      induction M with
      | nil => exact fun _ => rfl
      | cons m M ih =>
        intro hM
        obtain ⟨d0, hd0⟩ := hone m (hM m List.mem_cons_self)
        have h1 := hones m
        have h2 := ih fun x hx => hM x (List.mem_cons_of_mem _ hx)
        rw [hd0] at h1
        rw [List.flatMap_cons, hd0, List.singleton_append]
        unfold onesD at h1 ⊢
        split at h1 <;> simp_all
    exact key _ fun x hx => List.mem_of_mem_take hx
  have hone' := ones_rep (ctx_sane hs.heap) hones' hcr
  obtain ⟨_, arr, g2, g3, g4⟩ := hs.heap.cells id elT l hid
  obtain ⟨p1, p2, p3⟩ := putD_spec _ _ _ _ hput
  obtain ⟨w', c', r1, r2, r3, r4, r5, r6, r7, r8, r9⟩ := storeCells_run (P := P) (b := σ id) (off := off) (el := elT) vs 0 w arr hone' g2 (by rw [hvl]; omega)
  have hr : reps (ctxOf E s.H s.nx σ τ w) l' c'.toList := by
    refine ⟨by simp only [Array.length_toList, r3]; omega, fun j d v hd hv => ?_⟩
    rw [Array.getElem?_toList, r4 j] at hv
    rw [p3 j] at hd
    simp only [Nat.add_zero, hvl] at hv
    rw [f1] at hd
    by_cases hj : off ≤ j ∧ j < off + n
    · rw [if_pos hj] at hd hv
      exact hcr.2 _ d v hd hv
    · rw [if_neg hj] at hd hv
      exact g4 j d v hd hv
  obtain ⟨t1, t2⟩ := store_state hs hid r2 (run_mono _ _ _ _ r1) r5 r6 r7 r8 r9 hr
  have hmin : Nat.min L.length n = vs.length := by rw [hvl]; exact Nat.min_eq_right hn
  rw [hvl] at hload hmin
  have hq1 : q.size = 1 := by rw [q5, hs1]
  have hrun : (execOp a.eval o).run P w = .ok (.value (.int .i64 n)) w' := by
    simp [execOp, ho, hpx, hpy, resolve, invoke, builtin, Builtin.copy_, run_und k1, Builtin.lenOf, Builtin.firstCells, run_size q2, hq1, hmin, hload, r1, goInt, hvl]
  unfold Oper.wp
  rw [hrun]
  exact hnx _ _ _ _ _ _ h t1 .v (fun hg => by cases hg)
end
end Go.Proofs.YtgodclgcfpmloaaGreatDoor.V
namespace Go.Proofs.YtgodclgcfpmloaaGreatDoor.V
open Go.RowKit

section
variable {P : Program} {E : Env} {s : St} {σ : Nat → Nat} {τ : Nat → Value} {a : Act} {w : World}

theorem over_world (hs : SR E s σ τ a w) {id : Nat} {β : Type} {el e : Nat} {enc : β → List D} {L L' : List β} (hid : lget s.H id = some (.grow β el e enc L)) (hL : L'.length = L.length) (hlen : ∀ (i : Nat) x, L'[i]? = some x → (enc x).length = e)
    {g cap : Nat} {cur c' : Array Value} (hv : τ id = .slice (some ⟨g, 0, none⟩) L.length cap) (hg : w.heap[g]? = some (.cells cur el (0, 0))) (hcap : L.length ≤ cap) (hmax : cap ≤ maxLen) (hcs : cur.size = cap * e) {w' : World}
    (q2 : w'.heap[g]? = some (.cells c' el (0, 0))) (q3 : c'.size = cur.size) (hdr : w.drawn ≤ w'.drawn) (q5 : w'.os = w.os) (q6 : w'.tape = w.tape) (q7 : w'.output = w.output) (q8 : w'.heap.size = w.heap.size) (q9 : ∀ k, k ≠ g → w'.heap[k]? = w.heap[k]?)
    (hnew : ∀ (i : Nat) x (j : Nat) d u, L'[i]? = some x → (enc x)[j]? = some d → c'[i * e + j]? = some u → Rep (ctxOf E s.H s.nx σ τ w).still d u) :
    SR E ⟨s.F, (id, .grow β el e enc L') :: s.H, s.nx, s.G⟩ σ τ a w' := by
  obtain ⟨hmine, _, _, _, _⟩ := hs.heap.grow id _ _ _ _ _ hid
  have hgb : (τ id).ownBlock = some g := by rw [hv]; rfl
  have howng : owned s.H σ τ id g := .inr (.inl ⟨_, _, _, _, _, hid, hgb⟩)
  have hce : L.length * e ≤ cap * e := Nat.mul_le_mul_right e hcap
  have hle : (ctxOf E s.H s.nx σ τ w).Le (ctxOf E ((id, .grow β el e enc L') :: s.H) s.nx σ τ w') := by
    refine ⟨fun b of hb hc => ?_, fun b hb => ?_, fun _ _ _ hv => hv, fun _ _ hv => hv, fun _ _ _ hv => hv⟩
    · have hne : b ≠ g := by rintro rfl; exact hb.2.2 id howng
      exact (q9 b hne).trans hc
    · exact ⟨hb.1, by show b < w'.heap.size; rw [q8]; exact hb.2.1, fun j ho => hb.2.2 j (owned_over hid ho)⟩
  refine ⟨⟨⟨q5.trans hs.heap.kept.os, q6.trans hs.heap.kept.tape, q7.trans hs.heap.kept.output, by rw [q8]; exact hs.heap.kept.size, fun k hk1 hn => ?_, Nat.le_trans hs.heap.kept.drawn hdr⟩, hs.heap.few, fun j el' l2 h => ?_, fun j α el' e' enc' L2 h => ?_, fun i j b h1 h2 => hs.heap.apart i j b (owned_over hid h1) (owned_over hid h2), fun j o h => ?_, hs.heap.slices, fun j o h => by
    have hj : j ≠ id := by rintro rfl; rw [lget_same] at h; cases h
    rw [lget_ne _ _ hj] at h
    obtain ⟨h1, h2⟩ := hs.heap.obj j o h
    exact ⟨fun k hkf => ⟨(h1 k hkf).1, by rw [q8]; exact (h1 k hkf).2⟩, OA.at_mono h2 (fun k hkf => q9 k fun he => hj (hs.heap.apart j id k (.inr (.inr ⟨_, h, hkf⟩)) (he ▸ howng))) (Nat.le_of_eq q8.symm) hle.still⟩⟩, hs.defers, hs.size, fun i d h => (hs.slots i d h).mono hle, hs.ghost_le rfl hle, hs.room⟩
  · have hne : k ≠ g := by
      rintro rfl
      rcases hmine k hgb with hm | hm
      · exact hn hm
      · omega
    exact (q9 k hne).trans (hs.heap.kept.block k hk1 hn)
  · have hj : j ≠ id := by rintro rfl; rw [lget_same] at h; cases h
    rw [lget_ne _ _ hj] at h
    obtain ⟨h1, c2, h2, h3, h4⟩ := hs.heap.cells j el' l2 h
    have hne : σ j ≠ g := fun he => hj (hs.heap.apart j id (σ j) (.inl ⟨_, _, h, rfl⟩) (he ▸ howng))
    exact ⟨h1, c2, (q9 _ hne).trans h2, h3, fun i d u hd hu => (h4 i d u hd hu).mono hle⟩
  · by_cases hj : j = id
    · subst hj
      rw [lget_same] at h
      injection h with h; injection h with e1 e2 e3 e4 e5
      subst e1 e2 e3
      have e4 := eq_of_heq e4
      have e5 := eq_of_heq e5
      subst e4 e5
      have h9 : c'.toList.length = c'.size := by simp
      have h10 : (c'.toList.take (L'.length * e)).length = L'.length * e := by
        rw [List.length_take, h9, q3, hL]; omega
      refine ⟨hmine, c'.toList.take (L'.length * e), ⟨h10, .inr ⟨g, cap, c', by rw [hL]; exact hv, Nat.zero_le _, q2, by omega, hmax, by rw [q3]; exact hcs, rfl⟩⟩, hlen, fun i x k d u hx hd hu => ?_⟩
      have hi : i < L.length := by have := (List.getElem?_eq_some_iff.1 hx).1; omega
      have hk : k < e := by have := (List.getElem?_eq_some_iff.1 hd).1; rw [hlen i x hx] at this; exact this
      have hb : i * e + e ≤ L.length * e := by
        have := Nat.mul_le_mul_right e (show i + 1 ≤ L.length from hi)
        rw [Nat.succ_mul] at this; exact this
      rw [hL, List.getElem?_take_of_lt (by omega), Array.getElem?_toList] at hu
      exact (hnew i x k d u hx hd hu).mono hle.still
    · rw [lget_ne _ _ hj] at h
      obtain ⟨h1, xs2, ⟨h2, h2'⟩, h3, h4⟩ := hs.heap.grow j α el' e' enc' L2 h
      refine ⟨h1, xs2, ⟨h2, ?_⟩, h3, fun i x k d u hx hd hu => (h4 i x k d u hx hd hu).mono hle.still⟩
      rcases h2' with h2' | ⟨g2, cap2, cur2, hv2, hb2, hg2, hr2⟩
      · exact .inl h2'
      · refine .inr ⟨g2, cap2, cur2, hv2, hb2, (q9 g2 ?_).trans hg2, hr2⟩
        rintro rfl
        exact hj (hs.heap.apart j id _ (.inr (.inl ⟨α, el', e', enc', L2, h, by rw [hv2]; rfl⟩)) howng)
  · by_cases hj : j = id
    · subst hj; exact hs.heap.below j _ hid
    · rw [lget_ne _ _ hj] at h; exact hs.heap.below j o h

open Go.Sort in
theorem mapBlock_other (w : World) (blk k : Nat) (f : Array Value → Array Value) (h : k ≠ blk) : (mapBlock w blk f).heap[k]? = w.heap[k]? := by
  unfold mapBlock
  rw [Array.getElem?_modify, if_neg (fun e => h e.symm)]
open Go.Sort in
theorem mapBlock_at {w : World} {blk : Nat} {f : Array Value → Array Value} {c : Array Value} {el : TypeId} {fr : Nat × Nat} (h : w.heap[blk]? = some (.cells c el fr)) : (mapBlock w blk f).heap[blk]? = some (.cells (f c) el fr) := by
  unfold mapBlock
  rw [Array.getElem?_modify, if_pos rfl, h]
  rfl
end
end Go.Proofs.YtgodclgcfpmloaaGreatDoor.V
namespace Go.Proofs.YtgodclgcfpmloaaGreatDoor.V
open Go.RowKit

section
variable {P : Program} {tt : TT} {E : Env} {s : St} {σ : Nat → Nat} {τ : Nat → Value} {a : Act} {w : World}

theorem owned_gone {r : Nat} {j n : Nat} (h : owned ((r, .dead) :: s.H) σ τ j n) : owned s.H σ τ j n ∧ j ≠ r := by
  by_cases hj : j = r
  · subst hj
    rcases h with ⟨el', l', h1, _⟩ | ⟨α, el', e, enc, L, h1, _⟩ | ⟨o, h1, _⟩ <;> (rw [lget_same] at h1; cases h1)
  · refine ⟨?_, hj⟩
    rcases h with ⟨el', l', h1, h2⟩ | ⟨α, el', e, enc, L, h1, h2⟩ | ⟨o, h1, h2⟩
    · rw [lget_ne _ _ hj] at h1; exact .inl ⟨_, _, h1, h2⟩
    · rw [lget_ne _ _ hj] at h1; exact .inr (.inl ⟨_, _, _, _, _, h1, h2⟩)
    · rw [lget_ne _ _ hj] at h1; exact .inr (.inr ⟨_, h1, h2⟩)

theorem kill_state (hs : SR E s σ τ a w) {r g : Nat} (hr : owned s.H σ τ r g) {w' : World} (hos : w'.os = w.os) (htape : w'.tape = w.tape) (hout : w'.output = w.output) (hsz : w'.heap.size = w.heap.size) (hdr : w.drawn ≤ w'.drawn) (hblk : ∀ k, k ≠ g → w'.heap[k]? = w.heap[k]?) :
    SR E ⟨s.F, (r, .dead) :: s.H, s.nx, s.G⟩ σ τ a w' := by
  have hmine : E.mine g := by
    rcases hr with ⟨el, l, h1, rfl⟩ | ⟨α, el, e, enc, L, h1, h2⟩ | ⟨o, h1, h2⟩
    · exact (hs.heap.cells r el l h1).1
    · exact (hs.heap.grow r α el e enc L h1).1 g h2
    · exact ((hs.heap.obj r o h1).1 g h2).1
  have hne : ∀ j k, owned ((r, .dead) :: s.H) σ τ j k → k ≠ g := fun j k h e => by
    obtain ⟨h1, h2⟩ := owned_gone h
    subst e
    exact h2 (hs.heap.apart j r k h1 hr)
  have hle : (ctxOf E s.H s.nx σ τ w).Le (ctxOf E ((r, .dead) :: s.H) s.nx σ τ w') := by
    refine ⟨fun k o hk ho => ?_, fun k hk => ⟨hk.1, by show k < w'.heap.size; rw [hsz]; exact hk.2.1, fun j ho => hk.2.2 j (owned_gone ho).1⟩, fun _ _ _ h => h, fun _ _ h => h, fun _ _ _ h => h⟩
    have : k ≠ g := fun e => by subst e; exact hk.2.2 r hr
    exact (hblk k this).trans ho
  refine ⟨⟨⟨hos.trans hs.heap.kept.os, htape.trans hs.heap.kept.tape, hout.trans hs.heap.kept.output, by rw [hsz]; exact hs.heap.kept.size, fun k hk hn => ?_, Nat.le_trans hs.heap.kept.drawn hdr⟩, hs.heap.few, fun j el l h => ?_, fun j α el e enc L h => ?_, fun i j k h1 h2 => hs.heap.apart i j k (owned_gone h1).1 (owned_gone h2).1, fun j o h => ?_, hs.heap.slices, fun j o h => ?_⟩, hs.defers, hs.size, fun i d h => (hs.slots i d h).mono hle, hs.ghost_le (s' := ⟨s.F, (r, .dead) :: s.H, s.nx, s.G⟩) rfl hle, hs.room⟩
  · refine (hblk k fun e => ?_).trans (hs.heap.kept.block k hk hn)
    subst e
    rcases hmine with h | h
    · exact hn h
    · omega
  · have hj : j ≠ r := by rintro rfl; rw [lget_same] at h; cases h
    rw [lget_ne _ _ hj] at h
    obtain ⟨h1, c, h2, h3, h4⟩ := hs.heap.cells j el l h
    exact ⟨h1, c, (hblk _ (hne j _ (.inl ⟨_, _, by rw [lget_ne _ _ hj]; exact h, rfl⟩))).trans h2, h3, fun q d u hd hu => (h4 q d u hd hu).mono hle⟩
  · have hj : j ≠ r := by rintro rfl; rw [lget_same] at h; cases h
    rw [lget_ne _ _ hj] at h
    obtain ⟨h1, xs, ⟨h2, h2'⟩, h3, h4⟩ := hs.heap.grow j α el e enc L h
    refine ⟨h1, xs, ⟨h2, ?_⟩, h3, fun q x y d u hx hd hu => (h4 q x y d u hx hd hu).mono hle.still⟩
    rcases h2' with h2' | ⟨g', cap, cur, q1, q2, q3, q4⟩
    · exact .inl h2'
    · exact .inr ⟨g', cap, cur, q1, q2, (hblk _ (hne j _ (.inr (.inl ⟨_, _, _, _, _, by rw [lget_ne _ _ hj]; exact h, by rw [q1]; rfl⟩)))).trans q3, q4⟩
  · by_cases hj : j = r
    · subst hj
      rcases hr with ⟨el, l, h1, _⟩ | ⟨α, el, e, enc, L, h1, _⟩ | ⟨o, h1, _⟩ <;> exact hs.heap.below j _ h1
    · rw [lget_ne _ _ hj] at h; exact hs.heap.below j o h
  · have hj : j ≠ r := by rintro rfl; rw [lget_same] at h; cases h
    rw [lget_ne _ _ hj] at h
    obtain ⟨h1, h2⟩ := hs.heap.obj j o h
    exact ⟨fun k hk => ⟨(h1 k hk).1, by rw [hsz]; exact (h1 k hk).2⟩, OA.at_le h2 (fun k hk => hblk k (hne j k (.inr (.inr ⟨_, by rw [lget_ne _ _ hj]; exact h, hk⟩)))) hle.still⟩

end
end Go.Proofs.YtgodclgcfpmloaaGreatDoor.V
