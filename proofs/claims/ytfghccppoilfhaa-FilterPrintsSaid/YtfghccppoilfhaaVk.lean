/-
  Code; functions by value. Conditions: the table of types says what the program's says; functions are entered; plans are ones.
-/
import Derived.Test.YtfghccppoilfhaaVj
namespace Go.Proofs.Ytfghccppoilfhaa.V
open Go.RowKit

def VExit.to : VExit → Exit
  | .normal => .normal
  | .exit i => .exit i
  | .ret => .ret

def dstsOk (n : Nat) (ops : List Oper) : Bool := ops.all fun o => match o.dst with
  | some i => decide (i < n)
  | none => true
def codeOk (pl : Plans) (n : Nat) : Code → Bool
  | .seq a b => codeOk pl n a && codeOk pl n b
  | .cond _ a b => codeOk pl n a && codeOk pl n b
  | .block _ b => codeOk pl n b
  | .loop b => codeOk pl n b
  | .scope b => codeOk pl n b
  | .region _ ops false => dstsOk n ops.toList
  | .region id ops true => match isOpen pl id with
    | true => dstsOk n ops.toList && Region.noSelect ops && decide (lenO ops.toList = ops.size) && openOk ops (lenO ops.toList) (Array.replicate ops.size false) []
    | false => match okOf pl id with
      | some ok => dstsOk n ops.toList && Region.noSelect ops && decide (lenO ops.toList = ops.size) && freeAll ops ok && openOkR ops ok (lenO ops.toList) (Array.replicate ops.size false) []
      | none => dstsOk n ops.toList && Region.noSelect ops && decide ((planFor pl id ops.toList).length = ops.size) && vplanOk ops (planFor pl id ops.toList) (Array.replicate ops.size false)
  | _ => true

section
variable {P : Program} {tt : TT} {pl : Plans} {E : Env}

theorem coverF_spec {r : List (Nat × Nat)} {z : List Nat} {s : St} {n : Nat} : ∀ {l : List (Nat × D)}, coverF r z s n l → ∀ i d, lget l i = some d → tells r z n (slotD s i) d
  | [], _, i, d, h => by cases h
  | (k, x) :: l, hc, i, d, h => by
    by_cases hi : i = k
    · subst hi
      rw [lget_same] at h
      injection h with h; subst h
      exact hc.1
    · rw [lget_ne _ _ hi] at h
      exact coverF_spec hc.2 i d h
theorem coverH_spec {r : List (Nat × Nat)} {z : List Nat} {s : St} {n : Nat} : ∀ {l : List (Nat × LO)}, coverH r z s n l → ∀ i o, lget l i = some o →
    (hasN z i = true ∧ emptyO o) ∨ (hasN z i = false ∧ backOf r n (renOf r i) = some i ∧ ∃ o', lget s.H (renOf r i) = some o' ∧ LOLe r z n o' o)
  | [], _, i, d, h => by cases h
  | (k, x) :: l, hc, i, d, h => by
    by_cases hi : i = k
    · subst hi
      rw [lget_same] at h
      injection h with h; subst h
      obtain ⟨h1, _⟩ := hc
      split at h1
      · rename_i hz; exact .inl ⟨hz, h1⟩
      · rename_i hz
        obtain ⟨h2, h3⟩ := h1
        refine .inr ⟨hz, h2, ?_⟩
        split at h3
        · rename_i o' ho; exact ⟨o', ho, h3⟩
        · cases h3
    · rw [lget_ne _ _ hi] at h
      exact coverH_spec hc.2 i d h

theorem tellsL_spec {r : List (Nat × Nat)} {z : List Nat} {n : Nat} : ∀ {l l' : List D}, tellsL r z n l l' → l.length = l'.length ∧ ∀ (j : Nat) d, l'[j]? = some d → ∃ d0, l[j]? = some d0 ∧ tells r z n d0 d
  | [], [], _ => ⟨rfl, fun j d h => by simp at h⟩
  | d0 :: l, d' :: l', h => by
    obtain ⟨h1, h2⟩ := tellsL_spec h.2
    refine ⟨by simp [h1], fun j d hd => ?_⟩
    cases j with
    | zero =>
      simp only [List.getElem?_cons_zero, Option.some.injEq] at hd
      subst hd
      exact ⟨d0, rfl, h.1⟩
    | succ j =>
      obtain ⟨x, h3, h4⟩ := h2 j d (by simpa using hd)
      exact ⟨x, by simpa using h3, h4⟩
  | [], _ :: _, h => h.elim
  | _ :: _, [], h => h.elim

theorem tells_rep {r : List (Nat × Nat)} {z : List Nat} {n : Nat} {C C' : Ctx} {d d' : D} {v : Value} (h : tells r z n d d') (hle : (C.ren r n).Le C') (hz : ∀ i, hasN z i = true → C'.grow i (.slice none 0 0)) (hr : Rep C d v) : Rep C' d' v := by
  rcases h with h | ⟨rfl, i, hi, rfl⟩
  · exact (h _ _ (ren_rep 6 d C v hr)).mono hle
  · have := rep_v hr; subst this
    exact .grow (hz i hi)

theorem ren_same {r : List (Nat × Nat)} {m : Nat} (h : r.all (fun p => Nat.ble m p.1) = true) {i : Nat} (hi : i < m) : renOf r i = i := by
  induction r with
  | nil => rfl
  | cons x r ih =>
    obtain ⟨t, s⟩ := x
    simp only [List.all_cons, Bool.and_eq_true] at h
    simp only [renOf]
    have hne : Nat.beq t i = false := by
      cases hb : Nat.beq t i with
      | false => rfl
      | true =>
        have h1 := Nat.eq_of_beq_eq_true hb
        have h2 := Nat.le_of_ble_eq_true h.1
        omega
    rw [hne]
    exact ih h.2

theorem hasN_mem : ∀ {z : List Nat} {i : Nat}, hasN z i = true → i ∈ z
  | [], i, h => by cases h
  | k :: z, i, h => by
    simp only [hasN] at h
    split at h
    · rename_i hk; rw [Nat.eq_of_beq_eq_true hk]; exact List.mem_cons_self
    · exact List.mem_cons_of_mem _ (hasN_mem h)

theorem cover_state {r : List (Nat × Nat)} {z : List Nat} {s t : St} {σ : Nat → Nat} {τ : Nat → Value} {a : Act} {w : World} (h : Cover r z s t) (hs : SR E s σ τ a w) :
    SR E t (fun i => σ (renOf r i)) (fun i => bif hasN z i then .slice none 0 0 else τ (renOf r i)) a w := by
  obtain ⟨hF, hH, hG, hm, hr, hz⟩ := h
  have hz' : ∀ i, hasN z i = true → i < t.nx ∧ s.nx ≤ renOf r i := by
    intro i hi
    have := List.all_eq_true.1 hz i (hasN_mem hi)
    simp only [Bool.and_eq_true] at this
    exact ⟨(Nat.blt_eq ▸ this.1 : _ < _), Nat.le_of_ble_eq_true this.2⟩
  -- of places that somebody has, the old rows are meant
  have hnz : ∀ i, renOf r i < s.nx → hasN z i = false := by
    intro i hi
    cases hb : hasN z i with
    | false => rfl
    | true => have := (hz' i hb).2; omega
  have hown : ∀ id b, owned t.H (fun i => σ (renOf r i)) (fun i => bif hasN z i then .slice none 0 0 else τ (renOf r i)) id b → backOf r t.nx (renOf r id) = some id ∧ owned s.H σ τ (renOf r id) b := by
    intro id b ho
    rcases ho with ⟨el, l, h1, rfl⟩ | ⟨α, el, e, enc, L, h1, h2⟩ | ⟨o, h1, h2⟩
    rotate_left 2
    · rcases coverH_spec hH _ _ h1 with ⟨_, he⟩ | ⟨_, h0, o', h3, h4⟩
      · cases he
      · have h5 : o' = .obj o := by cases o' <;> exact h4
        subst h5
        exact ⟨h0, .inr (.inr ⟨_, h3, h2⟩)⟩
    · rcases coverH_spec hH _ _ h1 with ⟨_, he⟩ | ⟨_, h0, o', h3, h4⟩
      · cases he
      · cases o' with
        | cells el' l' => exact ⟨h0, .inl ⟨_, _, h3, rfl⟩⟩
        | _ => simp [LOLe] at h4
    · rcases coverH_spec hH _ _ h1 with ⟨hzi, _⟩ | ⟨hzi, h0, o', h3, h4⟩
      · simp only [hzi, cond_true] at h2
        cases h2
      · simp only [hzi, cond_false] at h2
        cases o' with
        | grow β el' e' enc' L' => exact ⟨h0, .inr (.inl ⟨_, _, _, _, _, h3, h2⟩)⟩
        | _ => simp [LOLe] at h4
  have hle : ((ctxOf E s.H s.nx σ τ w).ren r t.nx).Le (ctxOf E t.H t.nx (fun i => σ (renOf r i)) (fun i => bif hasN z i then .slice none 0 0 else τ (renOf r i)) w) :=
    ⟨fun _ _ _ hc => hc, fun b hb => ⟨hb.1, hb.2.1, fun id ho => hb.2.2 _ (hown id b ho).2⟩, fun id off v hv => ⟨hv.1, hv.2.2⟩, fun id v hv => ⟨hv.1, by simp only [hnz id hv.2.1, cond_false]; exact hv.2.2⟩, fun id off v hv => ⟨hv.1, by simp only [hnz id hv.2.1, cond_false]; exact hv.2.2⟩⟩
  have hzg : ∀ i, hasN z i = true → (ctxOf E t.H t.nx (fun i => σ (renOf r i)) (fun i => bif hasN z i then .slice none 0 0 else τ (renOf r i)) w).grow i (.slice none 0 0) := fun i hi => ⟨(hz' i hi).1, by simp only [hi, cond_true]⟩
  refine ⟨⟨hs.heap.kept, hs.heap.few, fun id el l h => ?_, fun id α el e enc L h => ?_, fun i j b h1 h2 => ?_, fun id o h => ?_, fun id => ?_, fun id o h => ?_⟩, hs.defers, hs.size, fun i d h => tells_rep (coverF_spec hF i d h) hle hzg (hs.slot i), fun G d v h => ?_, hm⟩
  · rcases coverH_spec hH _ _ h with ⟨_, he⟩ | ⟨_, _, o', h3, h4⟩
    · cases he
    · cases o' with
      | cells el' l' =>
        obtain ⟨rfl, h5⟩ := h4
        obtain ⟨g1, c, g2, g3, g4⟩ := hs.heap.cells _ _ _ h3
        obtain ⟨q1, q2⟩ := tellsL_spec h5
        refine ⟨g1, c, g2, g3.trans q1, fun j d u hd hu => ?_⟩
        obtain ⟨d0, q3, q4⟩ := q2 j d hd
        exact tells_rep q4 hle hzg (g4 j d0 u q3 hu)
      | _ => simp [LOLe] at h4
  · rcases coverH_spec hH _ _ h with ⟨hzi, he⟩ | ⟨hzi, _, o', h3, h4⟩
    · have hL : L = [] := by cases L <;> first | rfl | cases he
      subst hL
      simp only [hzi, cond_true]
      exact ⟨fun g hg => (by cases hg), [], World.ownsRow_nil w 0 el e, fun i x hx => (by simp at hx), fun i x j d u hx => (by simp at hx)⟩
    · have h5 : o' = .grow α el e enc L ∨ ∃ β enc', o' = .grow β el e enc' [] ∧ L = [] := by
        cases o' with
        | grow β el' e' enc' L' =>
          rcases h4 with h4 | ⟨h5, h6, h7, h8⟩
          · exact .inl h4
          · subst h5 h6 h7 h8; exact .inr ⟨_, _, rfl, rfl⟩
        | _ => simp [LOLe] at h4
      rcases h5 with h5 | ⟨β, enc', h5, h6⟩
      rotate_left
      · subst h5 h6
        obtain ⟨g1, xs, g2, _, _⟩ := hs.heap.grow _ _ _ _ _ _ h3
        simp only [hzi, cond_false]
        exact ⟨g1, xs, g2, fun i x hx => (by simp at hx), fun i x j d u hx => (by simp at hx)⟩
      subst h5
      obtain ⟨g1, xs, g2, g3, g4⟩ := hs.heap.grow _ _ _ _ _ _ h3
      simp only [hzi, cond_false]
      exact ⟨g1, xs, g2, g3, fun i x j d u hx hd hu => (g4 i x j d u hx hd hu).mono ⟨fun _ _ _ hc => hc, fun b hb => hle.ok b hb, fun _ _ _ h => h, fun _ _ h => h, fun _ _ _ h => h⟩⟩
  · obtain ⟨e1, o1⟩ := hown i b h1
    obtain ⟨e2, o2⟩ := hown j b h2
    rw [hs.heap.apart _ _ b o1 o2, e2] at e1
    injection e1 with e1; exact e1.symm
  · rcases coverH_spec hH id o h with ⟨hzi, _⟩ | ⟨_, h0, _⟩
    · exact (hz' id hzi).1
    · exact (backOf_spec h0).2
  · cases hb : hasN z id with
    | true => exact ⟨_, _, _, rfl⟩
    | false => exact hs.heap.slices _
  · rcases coverH_spec hH _ _ h with ⟨_, he⟩ | ⟨_, _, o', h3, h4⟩
    · cases he
    · have h5 : o' = .obj o := by cases o' <;> exact h4
      subst h5
      obtain ⟨g1, g2⟩ := hs.heap.obj _ _ h3
      exact ⟨g1, OA.at_mono g2 (fun _ _ => rfl) (Nat.le_refl _) ⟨fun _ _ _ hc => hc, fun b hb => hle.ok b hb, fun _ _ _ h => h, fun _ _ h => h, fun _ _ _ h => h⟩⟩
  · obtain ⟨g1, g2, g3⟩ := hs.ghost G d v h
    rw [hG] at g1 g2
    refine ⟨g1, g2, g3.mono ⟨hle.block, hle.ok, fun id off v hv => ?_, fun id v hv => ?_, fun id off v hv => ?_⟩⟩
    · have h1 : id < t.G.2 := Nat.lt_of_lt_of_le hv.1 g2
      exact ⟨hv.1, Nat.lt_of_lt_of_le h1 hm, by simp only [ren_same hr h1]; exact hv.2.2⟩
    · have h1 : id < t.G.2 := Nat.lt_of_lt_of_le hv.1.1 g2
      have h2 : hasN z id = false := hnz id (by rw [ren_same hr h1]; exact hv.2.1)
      exact ⟨hv.1, Nat.lt_of_lt_of_le h1 hm, by simp only [h2, cond_false, ren_same hr h1]; exact hv.2.2⟩
    · have h1 : id < t.G.2 := Nat.lt_of_lt_of_le hv.1.1 g2
      have h2 : hasN z id = false := hnz id (by rw [ren_same hr h1]; exact hv.2.1)
      exact ⟨hv.1, Nat.lt_of_lt_of_le h1 hm, by simp only [h2, cond_false, ren_same hr h1]; exact hv.2.2⟩

def Post (E : Env) (K : VExit → St → Prop) : Exit → Act → World → Prop := fun e a w => ∃ x s σ τ, e = VExit.to x ∧ K x s ∧ SR E s σ τ a w

theorem Post.mk {K : VExit → St → Prop} {a : Act} {w : World} (x : VExit) {s : St} {σ : Nat → Nat} {τ : Nat → Value} (hk : K x s) (hs : SR E s σ τ a w) : Post E K x.to a w := ⟨x, s, σ, τ, rfl, hk, hs⟩

theorem dstsOk_spec {n : Nat} {ops : List Oper} (h : dstsOk n ops = true) : ∀ o ∈ ops, ∀ i, o.dst = some i → i < n := by
  intro o ho i hi
  have := List.all_eq_true.1 h o ho
  simp only [hi, decide_eq_true_eq] at this
  exact this

theorem wpc_sound (htt : ttOk P tt) (hb : entersAll P = true) (hm : P.follows .mixedOrders = true) : ∀ (c : Code), codeOk pl E.n c = true → ∀ (s : St) (K : VExit → St → Prop) (σ : Nat → Nat) (τ : Nat → Value) (a : Act) (w : World),
    wpc P tt pl c s K → SR E s σ τ a w → c.wp P (Post E K) a w := by
  intro c
  induction c with
  | skip => intro _ s K σ τ a w h hs; exact wp_skip (Post.mk .normal h hs)
  | label l => intro _ s K σ τ a w h hs; exact wp_label (Post.mk .normal h hs)
  | ret => intro _ s K σ τ a w h hs; exact wp_ret (Post.mk .ret h hs)
  | exit id => intro _ s K σ τ a w h hs; exact wp_exit (Post.mk (.exit id) h hs)
  | seq x y ihx ihy =>
    intro hok s K σ τ a w h hs
    simp only [codeOk, Bool.and_eq_true] at hok
    refine wp_seq (wp_mono (ihx hok.1 s _ σ τ a w h hs) fun e a1 w1 hh => ?_)
    obtain ⟨q, s1, σ1, τ1, rfl, h1, h2⟩ := hh
    cases q with
    | normal => exact ihy hok.2 s1 K σ1 τ1 a1 w1 h1 h2
    | exit i => exact Post.mk (.exit i) h1 h2
    | ret => exact Post.mk .ret h1 h2
  | cond x p q ihp ihq =>
    intro hok s K σ τ a w h hs
    simp only [codeOk, Bool.and_eq_true] at hok
    simp only [wpc] at h
    split at h
    · rename_i β hβ
      have hv := evD_rep hs x
      rw [hβ] at hv
      have hv := rep_v hv
      cases β with
      | true => exact wp_cond_true hv (ihp hok.1 s K σ τ a w h hs)
      | false => exact wp_cond_false hv (ihq hok.2 s K σ τ a w h hs)
    · cases h
  | block id b ih =>
    intro hok s K σ τ a w h hs
    refine wp_block (wp_mono (ih hok s _ σ τ a w h hs) fun e a1 w1 hh => ?_)
    obtain ⟨q, s1, σ1, τ1, rfl, h1, h2⟩ := hh
    cases q with
    | normal => exact Post.mk .normal h1 h2
    | ret => exact Post.mk .ret h1 h2
    | exit j =>
      simp only [VExit.to, Exit.inBlock]
      simp only at h1
      split at h1
      · rename_i hj
        rw [if_pos (Nat.eq_of_beq_eq_true hj)]
        exact Post.mk .normal h1 h2
      · rename_i hj
        rw [if_neg (fun he => by subst he; simp at hj)]
        exact Post.mk (.exit j) h1 h2
  | loop b ih =>
    intro hok s K σ τ a w h hs
    obtain ⟨α, st, C, μ, ⟨p0, r0, z0, hc0, hp0⟩, hround⟩ := h
    have key : ∀ (n : Nat) (p : α) (σ : Nat → Nat) (τ : Nat → Value) (a : Act) (w : World), μ p < n → C p → SR E (st p) σ τ a w → Code.rounds P b (Post E K) n a w := by
      intro n
      induction n with
      | zero => intro p _ _ _ _ h; exact absurd h (Nat.not_lt_zero _)
      | succ n ihn =>
        intro p σ τ a w hμ hC hs
        rw [rounds_succ]
        refine wp_mono (ih hok (st p) _ σ τ a w (hround p hC) hs) fun e a1 w1 hh => ?_
        obtain ⟨q, s1, σ1, τ1, rfl, h1, h2⟩ := hh
        cases q with
        | normal =>
          obtain ⟨p', r', z', g1, g2, g3⟩ := h1
          exact ihn p' _ _ a1 w1 (by omega) g2 (cover_state g1 h2)
        | exit i => exact Post.mk (.exit i) h1 h2
        | ret => exact Post.mk .ret h1 h2
    exact wp_loop_rounds (μ p0 + 1) (key _ p0 _ _ a w (Nat.lt_succ_self _) hp0 (cover_state hc0 hs))
  | scope b ih =>
    intro hok s K σ τ a w h hs
    refine wp_scope_straight (wp_mono (ih hok s K σ τ a w h hs) fun e a1 w1 hh => ?_)
    obtain ⟨q, s1, σ1, τ1, rfl, h1, h2⟩ := hh
    cases q with
    | normal => exact Post.mk .normal h1 h2
    | ret => exact Post.mk .ret h1 h2
    | exit j => exact Post.mk (.exit j) h1 h2
  | region id ops draw =>
    intro hok s K σ τ a w h hs
    cases draw with
    | false =>
      simp only [codeOk] at hok
      exact wp_region_list (wlist_sound htt hb ops.toList s σ τ a w _ (dstsOk_spec hok) h hs fun s' σ' τ' a' w' h1 h2 => Post.mk .normal h1 h2)
    | true =>
      simp only [codeOk] at hok
      unfold wpc at h
      split at hok
      · rename_i hop
        rw [hop] at h
        simp only [Bool.and_eq_true, decide_eq_true_eq] at hok
        obtain ⟨⟨⟨h1, h2⟩, h3⟩, h4⟩ := hok
        obtain ⟨β, t, h, hk⟩ := h
        refine wp_region_any hm (wpAny_of_J (T := fun _ _ _ => True) _ _ _ _ ?_)
        have := wopen_sound (Q := Post E K) htt hb h2 (fun c a w hh => by obtain ⟨x, _, _, _, hx, _⟩ := hh; cases x <;> cases hx) (fun i o ho => dstsOk_spec h1 o (by
          rw [Array.getElem?_eq_some_iff] at ho
          obtain ⟨hl, rfl⟩ := ho
          simp)) (lenO ops.toList) _ [] s σ τ a w.drew _ (closed_first ops) (by simp) h4 h (drew_state hs) fun s' σ' τ' a' w' ⟨b, r, z, g1⟩ g2 => Post.mk .normal (hk b) (cover_state g1 g2)
        rw [h3] at this
        exact this
      · rename_i hop
        rw [hop] at h
        split at hok
        · rename_i ok hop2
          rw [hop2] at h
          simp only [Bool.and_eq_true, decide_eq_true_eq] at hok
          obtain ⟨⟨⟨⟨h1, h2⟩, h3⟩, hfa⟩, h4⟩ := hok
          obtain ⟨β, t, h, hk⟩ := h
          refine wp_region_any hm (wpAny_of_J (T := turnsR ops ok) _ _ _ _ ?_)
          have := wopenR_sound (Q := Post E K) htt hb h2 (fun c a w hh => by obtain ⟨x, _, _, _, hx, _⟩ := hh; cases x <;> cases hx) (fun i o ho => dstsOk_spec h1 o (by
            rw [Array.getElem?_eq_some_iff] at ho
            obtain ⟨hl, rfl⟩ := ho
            simp)) ok hfa (lenO ops.toList) _ [] s σ τ a w.drew _ (closed_first ops) (by simp) h4 h (drew_state hs) fun s' σ' τ' a' w' ⟨b, r, z, g1⟩ g2 => Post.mk .normal (hk b) (cover_state g1 g2)
          rw [h3] at this
          exact this
        rename_i hop2
        rw [hop2] at h
        simp only [Bool.and_eq_true, decide_eq_true_eq] at hok
        obtain ⟨⟨⟨h1, h2⟩, h3⟩, h4⟩ := hok
        refine wp_region_any hm (wpAny_of_J (T := turns ops) _ _ _ _ ?_)
        have := wplan_sound (Q := Post E K) htt hb h2 (fun c a w hh => by obtain ⟨x, _, _, _, hx, _⟩ := hh; cases x <;> cases hx) (fun i o ho => dstsOk_spec h1 o (by
          rw [Array.getElem?_eq_some_iff] at ho
          obtain ⟨hl, rfl⟩ := ho
          simp)) (planFor pl id ops.toList) _ s σ τ a w.drew _ (closed_first ops) (by simp) h4 h (drew_state hs) fun s' σ' τ' a' w' g1 g2 => Post.mk .normal g1 g2
        rw [h3] at this
        exact this
  | _ => intro _ s K σ τ a w h hs; cases h
end
end Go.Proofs.Ytfghccppoilfhaa.V
