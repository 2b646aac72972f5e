/-
  Operations that make memory, or write to memory of one's own. Condition: the table of types says what the program's says.
-/
import Derived.Test.YtfghccppoilfhaaVg
namespace Go.Proofs.Ytfghccppoilfhaa.V
open Go.RowKit

theorem lget_same {β : Type 1} (k : Nat) (x : β) (r : List (Nat × β)) : lget ((k, x) :: r) k = some x := by
  simp only [lget]
  have : Nat.beq k k = true := by simp
  rw [this]
theorem lget_ne {β : Type 1} {k i : Nat} (x : β) (r : List (Nat × β)) (h : i ≠ k) : lget ((k, x) :: r) i = lget r i := by
  simp only [lget]
  cases hb : Nat.beq k i with
  | true => exact absurd (Nat.eq_of_beq_eq_true hb).symm h
  | false => rfl

theorem newRow_at {P : Program} {t : TypeId} {c : Array Value} {w : World} : (newRow t c).run P w = .ok ⟨w.heap.size, 0, none⟩ (w.alloc (.cells c t)) := by
  simp only [newRow, newObj, Sem.run_bind, Sem.run, Result.andThen_ok, Sem.run_pure]
  rfl

def setN (σ : Nat → Nat) (i b : Nat) : Nat → Nat := fun j => if j = i then b else σ j

section
variable {P : Program} {tt : TT} {E : Env} {s : St} {σ : Nat → Nat} {τ : Nat → Value} {a : Act} {w : World}

theorem Kept.alloc (h : Kept E w) (o : Obj) : Kept E (w.alloc o) :=
  ⟨h.os, h.tape, h.output, by have := h.size; simp; omega, fun k hk hn => (Below.heap_alloc w o k (Nat.lt_of_lt_of_le hk h.size)).trans (h.block k hk hn), h.drawn⟩

theorem owned_new {H : List (Nat × LO)} {nx b j : Nat} {el : TypeId} {l : List D} {n : Nat} (h : owned ((nx, .cells el l) :: H) (setN σ nx b) τ j n) : (j = nx ∧ n = b) ∨ (j ≠ nx ∧ owned H σ τ j n) := by
  by_cases hj : j = nx
  · subst hj
    left
    rcases h with ⟨el', l', h1, rfl⟩ | ⟨α, el', e, enc, L, h1, h2⟩ | ⟨o, h1, _⟩
    · exact ⟨rfl, by simp [setN]⟩
    · rw [lget_same] at h1; cases h1
    · rw [lget_same] at h1; cases h1
  · right
    refine ⟨hj, ?_⟩
    rcases h with ⟨el', l', h1, rfl⟩ | ⟨α, el', e, enc, L, h1, h2⟩ | ⟨o, h1, h2⟩
    · rw [lget_ne _ _ hj] at h1
      exact .inl ⟨el', l', h1, by simp [setN, hj]⟩
    · rw [lget_ne _ _ hj] at h1
      exact .inr (.inl ⟨α, el', e, enc, L, h1, h2⟩)
    · rw [lget_ne _ _ hj] at h1
      exact .inr (.inr ⟨o, h1, by simpa [setN, hj] using h2⟩)

theorem alloc_le (hs : HR E s.H s.nx σ τ w) (el : TypeId) (l : List D) (o : Obj) : (ctxOf E s.H s.nx σ τ w).Le (ctxOf E ((s.nx, .cells el l) :: s.H) (s.nx + 1) (setN σ s.nx w.heap.size) τ (w.alloc o)) := by
  refine ⟨fun b of hb hc => ?_, fun b hb => ?_, fun id off v hv => ?_, fun id v hv => ?_, fun id off v hv => ?_⟩
  · exact (Below.heap_alloc w o b hb.2.1).trans hc
  · obtain ⟨h1, h2, h3⟩ := hb
    refine ⟨h1, by simp; omega, fun id ho => ?_⟩
    rcases owned_new ho with ⟨_, rfl⟩ | ⟨_, ho⟩
    · exact absurd h2 (Nat.lt_irrefl _)
    · exact h3 id ho
  · obtain ⟨h1, rfl⟩ := hv
    exact ⟨Nat.lt_succ_of_lt h1, by simp [setN, show id ≠ s.nx by omega]⟩
  · exact ⟨Nat.lt_succ_of_lt hv.1, hv.2⟩
  · exact ⟨Nat.lt_succ_of_lt hv.1, hv.2⟩

theorem alloc_state (hs : SR E s σ τ a w) {el : TypeId} {l : List D} {c : Array Value} (hr : reps (ctxOf E s.H s.nx σ τ w) l c.toList) :
    SR E ⟨s.F, (s.nx, .cells el l) :: s.H, s.nx + 1, s.G⟩ (setN σ s.nx w.heap.size) τ a (w.alloc (.cells c el)) := by
  have hle := alloc_le hs.heap el l (.cells c el)
  refine ⟨⟨hs.heap.kept.alloc _, hs.heap.few, fun id el' l' h => ?_, fun id α el' e enc L h => ?_, fun i j b h1 h2 => ?_, fun id o h => ?_, hs.heap.slices, fun id o h => by
    have hid : id ≠ s.nx := by rintro rfl; rw [lget_same] at h; cases h
    rw [lget_ne _ _ hid] at h
    obtain ⟨h1, h2⟩ := hs.heap.obj id o h
    have e0 : setN σ s.nx w.heap.size id = σ id := by simp [setN, hid]
    rw [e0]
    exact ⟨fun k hk => ⟨(h1 k hk).1, by have := (h1 k hk).2; simp; omega⟩, OA.at_mono h2 (fun k hk => Below.heap_alloc w _ _ (h1 k hk).2) (by show w.heap.size ≤ (w.alloc _).heap.size; simp) hle.still⟩⟩, hs.defers, hs.size, fun i d h => (hs.slots i d h).mono hle, hs.ghost_le rfl hle, Nat.le_succ_of_le hs.room⟩
  · by_cases hid : id = s.nx
    · subst hid
      rw [lget_same] at h
      injection h with h; injection h with h1 h2; subst h1 h2
      refine ⟨.inr (by simp only [setN, if_true]; exact hs.heap.kept.size), c, ?_, by simpa using hr.1, fun j d u hd hu => (hr.2 j d u hd (by simpa using hu)).mono hle⟩
      simp only [setN, if_true]
      show (w.heap.push _)[w.heap.size]? = _
      simp
    · rw [lget_ne _ _ hid] at h
      obtain ⟨h1, c', h2, h3, h4⟩ := hs.heap.cells id el' l' h
      have hlt : σ id < w.heap.size := (Array.getElem?_eq_some_iff.1 h2).1
      refine ⟨by simpa [setN, hid] using h1, c', ?_, h3, fun j d u hd hu => (h4 j d u hd hu).mono hle⟩
      simp only [setN, hid, if_false]
      rw [Below.heap_alloc w _ _ hlt]; exact h2
  · have hid : id ≠ s.nx := by rintro rfl; rw [lget_same] at h; cases h
    rw [lget_ne _ _ hid] at h
    obtain ⟨h1, xs, h2, h3, h4⟩ := hs.heap.grow id α el' e enc L h
    exact ⟨h1, xs, h2.alloc _, h3, fun i x j d u hx hd hu => (h4 i x j d u hx hd hu).mono hle.still⟩
  · rcases owned_new h1 with ⟨rfl, rfl⟩ | ⟨g1, h1⟩ <;> rcases owned_new h2 with ⟨rfl, e2⟩ | ⟨g2, h2⟩
    · rfl
    · exact absurd (owned_lt hs.heap h2) (Nat.lt_irrefl _)
    · subst e2; exact absurd (owned_lt hs.heap h1) (Nat.lt_irrefl _)
    · exact hs.heap.apart i j b h1 h2
  · by_cases hid : id = s.nx
    · subst hid; exact Nat.lt_succ_self _
    · rw [lget_ne _ _ hid] at h
      exact Nat.lt_succ_of_lt (hs.heap.below id o h)

theorem alloc_rep (hs : SR E s σ τ a w) (el : TypeId) (l : List D) (o : Obj) : Rep (ctxOf E ((s.nx, .cells el l) :: s.H) (s.nx + 1) (setN σ s.nx w.heap.size) τ (w.alloc o)) (.loc s.nx 0) (.pointer (some ⟨w.heap.size, 0, none⟩)) :=
  .loc ⟨Nat.lt_succ_self _, by simp [setN]⟩

/-! ### Stores -/
theorem store_one {w : World} {p : Addr} {v : Value} {mo : Mode} (h1 : v.oneCell' = true) (hc : ∃ u, w.cell? p = some u) (hf : w.frozen? p = false) : (Go.store p v mo).run P w = .ok () (w.setCell p v) := by
  obtain ⟨u, hu⟩ := hc
  cases v <;> first | (simp [Value.oneCell'] at h1; done) | simp [Go.store, Sem.run, hu, hf]

theorem storeCells_run {b off : Nat} {el : TypeId} : ∀ (vs : List Value) (i : Nat) (w : World) (c : Array Value), (∀ v ∈ vs, v.oneCell' = true) → w.heap[b]? = some (.cells c el (0, 0)) → off + i + vs.length ≤ c.size →
    ∃ w' c', (storeCells ⟨b, off, none⟩ vs i).run P w = .ok () w' ∧ w'.heap[b]? = some (.cells c' el (0, 0)) ∧ c'.size = c.size ∧ (∀ j, c'[j]? = if off + i ≤ j ∧ j < off + i + vs.length then vs[j - (off + i)]? else c[j]?) ∧
      w'.os = w.os ∧ w'.tape = w.tape ∧ w'.output = w.output ∧ w'.heap.size = w.heap.size ∧ ∀ k, k ≠ b → w'.heap[k]? = w.heap[k]? := by
  intro vs
  induction vs with
  | nil => intro i w c _ h _; exact ⟨w, c, by simp [storeCells], h, rfl, fun j => by rw [if_neg (by simp only [List.length_nil]; omega)], rfl, rfl, rfl, rfl, fun _ _ => rfl⟩
  | cons v vs ih =>
    intro i w c h1 h h2
    simp only [List.length_cons] at h2
    have hcell : ∃ u, w.cell? ⟨b, off + i, none⟩ = some u := ⟨c[off + i], by simp [World.cell?, h]⟩
    have hfr : w.frozen? ⟨b, off + i, none⟩ = false := by simp [World.frozen?, h]
    have hset : (w.setCell ⟨b, off + i, none⟩ v).heap[b]? = some (.cells (c.setIfInBounds (off + i) v) el (0, 0)) := by simp [World.setCell, Array.getElem?_modify, h]
    obtain ⟨w', c', g1, g2, g3, g4, g5, g6, g7, g8, g9⟩ := ih (i + 1) (w.setCell ⟨b, off + i, none⟩ v) (c.setIfInBounds (off + i) v) (fun u hu => h1 u (List.mem_cons_of_mem _ hu)) hset (by simp; omega)
    refine ⟨w', c', ?_, g2, by rw [g3]; simp, fun j => ?_, g5, g6, g7, by rw [g8]; simp [World.setCell], fun k hk => (g9 k hk).trans (Below.heap_setCell _ _ _ _ hk)⟩
    · simp only [storeCells, Sem.run_bind, addr_add, store_one (h1 v List.mem_cons_self) hcell hfr, Result.andThen_ok, g1]
    · rw [g4 j]
      simp only [List.length_cons]
      by_cases hj : off + (i + 1) ≤ j ∧ j < off + (i + 1) + vs.length
      · rw [if_pos hj, if_pos (by omega), show j - (off + i) = (j - (off + (i + 1))) + 1 by omega, List.getElem?_cons_succ]
      · rw [if_neg hj, Array.getElem?_setIfInBounds]
        by_cases he : off + i = j
        · subst he
          rw [if_pos rfl, if_pos (by omega), if_pos (by omega)]; simp
        · rw [if_neg he, if_neg (by omega)]

theorem ones_rep {C : Ctx} (hs : C.Sane) : ∀ {l : List D} {c : List Value}, onesD l = true → reps C l c → ∀ u ∈ c, u.oneCell' = true
  | [], c, _, h, u, hu => by
    have : c = [] := List.eq_nil_of_length_eq_zero h.1
    subst this; cases hu
  | d :: l, c, ho, h, u, hu => by
    cases c with
    | nil => cases hu
    | cons v c =>
      have hv : Rep C d v := h.2 0 d v rfl rfl
      have htl : reps C l c := ⟨by have := h.1; simpa using this, fun j d' u' a b => h.2 (j + 1) d' u' (by simpa using a) (by simpa using b)⟩
      have key : onesD l = true ∧ v.oneCell' = true := by
        cases hv with
        | v => cases v <;> first | (simp [onesD] at ho; done) | exact ⟨by simpa [onesD] using ho, rfl⟩
        | agg => simp [onesD] at ho
        | tup => simp [onesD] at ho
        | junk => simp [onesD] at ho
        | loc hl => obtain ⟨q, rfl⟩ := hs.loc _ _ _ hl; exact ⟨by simpa [onesD] using ho, rfl⟩
        | grow hl => obtain ⟨q, _, _, rfl⟩ := hs.grow _ _ hl; exact ⟨by simpa [onesD] using ho, rfl⟩
        | op hl => obtain ⟨q, rfl⟩ := hs.op _ _ _ hl; exact ⟨by simpa [onesD] using ho, rfl⟩
        | _ => exact ⟨by simpa [onesD] using ho, rfl⟩
      rcases List.mem_cons.1 hu with rfl | hu
      · exact key.2
      · exact ones_rep hs key.1 htl u hu

theorem owned_set {H : List (Nat × LO)} {id : Nat} {el : TypeId} {l l' : List D} {j n : Nat} (hid : lget H id = some (.cells el l)) (h : owned ((id, .cells el l') :: H) σ τ j n) : owned H σ τ j n := by
  by_cases hj : j = id
  · subst hj
    rcases h with ⟨el', l', h1, rfl⟩ | ⟨α, el', e, enc, L, h1, h2⟩ | ⟨o, h1, _⟩
    · exact .inl ⟨_, _, hid, rfl⟩
    · rw [lget_same] at h1; cases h1
    · rw [lget_same] at h1; cases h1
  · rcases h with ⟨el', l', h1, rfl⟩ | ⟨α, el', e, enc, L, h1, h2⟩ | ⟨o, h1, h2⟩
    rotate_left 2
    · rw [lget_ne _ _ hj] at h1
      exact .inr (.inr ⟨o, h1, h2⟩)
    · rw [lget_ne _ _ hj] at h1
      exact .inl ⟨el', l', h1, rfl⟩
    · rw [lget_ne _ _ hj] at h1
      exact .inr (.inl ⟨α, el', e, enc, L, h1, h2⟩)

theorem store_state (hs : SR E s σ τ a w) {id : Nat} {el : TypeId} {l l' : List D} (hid : lget s.H id = some (.cells el l)) {c' : Array Value} {w' : World} (hw : w'.heap[σ id]? = some (.cells c' el (0, 0))) (hdr : w.drawn ≤ w'.drawn) (hos : w'.os = w.os) (htp : w'.tape = w.tape)
    (hou : w'.output = w.output) (hsz : w'.heap.size = w.heap.size) (hk : ∀ k, k ≠ σ id → w'.heap[k]? = w.heap[k]?) (hr : reps (ctxOf E s.H s.nx σ τ w) l' c'.toList) :
    SR E ⟨s.F, (id, .cells el l') :: s.H, s.nx, s.G⟩ σ τ a w' ∧ (ctxOf E s.H s.nx σ τ w).Le (ctxOf E ((id, .cells el l') :: s.H) s.nx σ τ w') := by
  have hown : owned s.H σ τ id (σ id) := .inl ⟨_, _, hid, rfl⟩
  have hle : (ctxOf E s.H s.nx σ τ w).Le (ctxOf E ((id, .cells el l') :: s.H) s.nx σ τ w') := by
    refine ⟨fun b of hb hc => ?_, fun b hb => ?_, fun _ _ _ hv => hv, fun _ _ hv => hv, fun _ _ _ hv => hv⟩
    · have hne : b ≠ σ id := by rintro rfl; exact hb.2.2 id hown
      exact (hk b hne).trans hc
    · exact ⟨hb.1, by show b < w'.heap.size; rw [hsz]; exact hb.2.1, fun j ho => hb.2.2 j (owned_set hid ho)⟩
  obtain ⟨hmine, _⟩ := hs.heap.cells id el l hid
  refine ⟨⟨⟨⟨hos.trans hs.heap.kept.os, htp.trans hs.heap.kept.tape, hou.trans hs.heap.kept.output, by rw [hsz]; exact hs.heap.kept.size, fun k hk1 hn => ?_, Nat.le_trans hs.heap.kept.drawn hdr⟩, hs.heap.few, fun j el' l2 h => ?_, fun j α el' e enc L h => ?_, fun i j b h1 h2 => hs.heap.apart i j b (owned_set hid h1) (owned_set hid h2), fun j o h => ?_, hs.heap.slices, fun j o h => by
    have hj : j ≠ id := by rintro rfl; rw [lget_same] at h; cases h
    rw [lget_ne _ _ hj] at h
    obtain ⟨h1, h2⟩ := hs.heap.obj j o h
    exact ⟨fun k hkf => ⟨(h1 k hkf).1, by rw [hsz]; exact (h1 k hkf).2⟩, OA.at_mono h2 (fun k hkf => hk k fun he => hj (hs.heap.apart j id k (.inr (.inr ⟨_, h, hkf⟩)) (he ▸ hown))) (Nat.le_of_eq hsz.symm) hle.still⟩⟩, hs.defers, hs.size, fun i d h => (hs.slots i d h).mono hle, hs.ghost_le rfl hle, hs.room⟩, hle⟩
  · have hne : k ≠ σ id := by
      rintro rfl
      rcases hmine with hm | hm
      · exact hn hm
      · omega
    exact (hk k hne).trans (hs.heap.kept.block k hk1 hn)
  · by_cases hj : j = id
    · subst hj
      rw [lget_same] at h
      injection h with h; injection h with h1 h2; subst h1 h2
      exact ⟨hmine, c', hw, by simpa using hr.1, fun i d u hd hu => (hr.2 i d u hd (by simpa using hu)).mono hle⟩
    · rw [lget_ne _ _ hj] at h
      obtain ⟨h1, c2, h2, h3, h4⟩ := hs.heap.cells j el' l2 h
      have hne : σ j ≠ σ id := fun he => hj (hs.heap.apart j id (σ j) (.inl ⟨_, _, h, rfl⟩) (he ▸ hown))
      exact ⟨h1, c2, (hk _ hne).trans h2, h3, fun i d u hd hu => (h4 i d u hd hu).mono hle⟩
  · have hj : j ≠ id := by rintro rfl; rw [lget_same] at h; cases h
    rw [lget_ne _ _ hj] at h
    obtain ⟨h1, xs, ⟨h2, h2'⟩, h3, h4⟩ := hs.heap.grow j α el' e enc L h
    refine ⟨h1, xs, ⟨h2, ?_⟩, h3, fun i x k d u hx hd hu => (h4 i x k d u hx hd hu).mono hle.still⟩
    rcases h2' with h2' | ⟨g, cap, cur, hv, hb, hg, hr⟩
    · exact .inl h2'
    · refine .inr ⟨g, cap, cur, hv, hb, (hk g ?_).trans hg, hr⟩
      rintro rfl
      exact hj (hs.heap.apart j id _ (.inr (.inl ⟨α, el', e, enc, L, h, by rw [hv]; rfl⟩)) hown)
  · by_cases hj : j = id
    · subst hj; exact hs.heap.below j _ hid
    · rw [lget_ne _ _ hj] at h; exact hs.heap.below j o h

theorem owned_over {H : List (Nat × LO)} {id : Nat} {β : Type} {el e : Nat} {enc : β → List D} {L L' : List β} {j n : Nat} (hid : lget H id = some (.grow β el e enc L)) (h : owned ((id, .grow β el e enc L') :: H) σ τ j n) : owned H σ τ j n := by
  by_cases hj : j = id
  · subst hj
    rcases h with ⟨el', l', h1, rfl⟩ | ⟨α, el', e', enc', L2, h1, h2⟩ | ⟨o, h1, _⟩
    rotate_left 2
    · rw [lget_same] at h1; cases h1
    · rw [lget_same] at h1; cases h1
    · exact .inr (.inl ⟨_, _, _, _, _, hid, h2⟩)
  · rcases h with ⟨el', l', h1, rfl⟩ | ⟨α, el', e', enc', L2, h1, h2⟩ | ⟨o, h1, h2⟩
    rotate_left 2
    · rw [lget_ne _ _ hj] at h1
      exact .inr (.inr ⟨o, h1, h2⟩)
    · rw [lget_ne _ _ hj] at h1
      exact .inl ⟨el', l', h1, rfl⟩
    · rw [lget_ne _ _ hj] at h1
      exact .inr (.inl ⟨α, el', e', enc', L2, h1, h2⟩)

theorem over_state (hs : SR E s σ τ a w) {id : Nat} {β : Type} {el e : Nat} {enc : β → List D} {L L' : List β} (hid : lget s.H id = some (.grow β el e enc L)) (hL : L'.length = L.length) (vs : List Value) (off : Nat) (hone : ∀ v ∈ vs, v.oneCell' = true)
    (hpos : 0 < L.length) (hoff : off + vs.length ≤ L.length * e) (hlen : ∀ (i : Nat) x, L'[i]? = some x → (enc x).length = e)
    (hnew : ∀ (i : Nat) x (j : Nat) d, L'[i]? = some x → (enc x)[j]? = some d → ((off ≤ i * e + j ∧ i * e + j < off + vs.length) ∧ ∀ u, vs[i * e + j - off]? = some u → Rep (ctxOf E s.H s.nx σ τ w).still d u) ∨
      (¬ (off ≤ i * e + j ∧ i * e + j < off + vs.length) ∧ ∃ y, L[i]? = some y ∧ (enc y)[j]? = some d)) :
    ∃ w', (storeCells ⟨(τ id).ownBlock.getD 0, off, none⟩ vs 0).run P w = .ok () w' ∧ SR E ⟨s.F, (id, .grow β el e enc L') :: s.H, s.nx, s.G⟩ σ τ a w' := by
  obtain ⟨hmine, xs, ⟨hxl, hown⟩, hlen0, hrep0⟩ := hs.heap.grow id _ _ _ _ _ hid
  rcases hown with ⟨_, hn⟩ | ⟨g, cap, cur, hv, hbase, hg, hcap, hmax, hcs, htk⟩
  · omega
  have hgb : (τ id).ownBlock = some g := by rw [hv]; rfl
  have howng : owned s.H σ τ id g := .inr (.inl ⟨_, _, _, _, _, hid, hgb⟩)
  have hce : L.length * e ≤ cap * e := Nat.mul_le_mul_right e hcap
  obtain ⟨w', c', q1, q2, q3, q4, q5, q6, q7, q8, q9⟩ := storeCells_run (P := P) (b := g) (off := off) (el := el) vs 0 w cur hone hg (by omega)
  have hsz : w'.heap.size = w.heap.size := q8
  refine ⟨w', by rw [hgb]; exact q1, ?_⟩
  have hle : (ctxOf E s.H s.nx σ τ w).Le (ctxOf E ((id, .grow β el e enc L') :: s.H) s.nx σ τ w') := by
    refine ⟨fun b of hb hc => ?_, fun b hb => ?_, fun _ _ _ hv => hv, fun _ _ hv => hv, fun _ _ _ hv => hv⟩
    · have hne : b ≠ g := by rintro rfl; exact hb.2.2 id howng
      exact (q9 b hne).trans hc
    · exact ⟨hb.1, by show b < w'.heap.size; rw [hsz]; exact hb.2.1, fun j ho => hb.2.2 j (owned_over hid ho)⟩
  refine ⟨⟨⟨q5.trans hs.heap.kept.os, q6.trans hs.heap.kept.tape, q7.trans hs.heap.kept.output, by rw [hsz]; exact hs.heap.kept.size, fun k hk1 hn => ?_, Nat.le_trans hs.heap.kept.drawn (run_mono _ _ _ _ q1)⟩, hs.heap.few, fun j el' l2 h => ?_, fun j α el' e' enc' L2 h => ?_, fun i j b h1 h2 => hs.heap.apart i j b (owned_over hid h1) (owned_over hid h2), fun j o h => ?_, hs.heap.slices, fun j o h => by
    have hj : j ≠ id := by rintro rfl; rw [lget_same] at h; cases h
    rw [lget_ne _ _ hj] at h
    obtain ⟨h1, h2⟩ := hs.heap.obj j o h
    exact ⟨fun k hkf => ⟨(h1 k hkf).1, by rw [hsz]; exact (h1 k hkf).2⟩, OA.at_mono h2 (fun k hkf => q9 k fun he => hj (hs.heap.apart j id k (.inr (.inr ⟨_, h, hkf⟩)) (he ▸ howng))) (Nat.le_of_eq hsz.symm) hle.still⟩⟩, hs.defers, hs.size, fun i d h => (hs.slots i d h).mono hle, hs.ghost_le rfl hle, hs.room⟩
  · have hne : k ≠ g := by
      rintro rfl
      rcases hmine k hgb with hm | hm
      · exact hn hm
      · omega
    exact (q9 k hne).trans (hs.heap.kept.block k hk1 hn)
  · have hj : j ≠ id := by rintro rfl; rw [lget_same] at h; cases h
    rw [lget_ne _ _ hj] at h
    obtain ⟨h1, c2, h2, h3, h4⟩ := hs.heap.cells j el' l2 h
    have hne : σ j ≠ g := fun he => hj (hs.heap.apart j id (σ j) (.inl ⟨_, _, h, rfl⟩) (he ▸ howng))
    exact ⟨h1, c2, (q9 _ hne).trans h2, h3, fun i d u hd hu => (h4 i d u hd hu).mono hle⟩
  · by_cases hj : j = id
    · subst hj
      rw [lget_same] at h
      injection h with h; injection h with e1 e2 e3 e4 e5
      subst e1 e2 e3
      have e4 := eq_of_heq e4
      have e5 := eq_of_heq e5
      subst e4 e5
      have h9 : c'.toList.length = c'.size := by simp
      have h10 : (c'.toList.take (L'.length * e)).length = L'.length * e := by
        rw [List.length_take, h9, q3, hL]; omega
      refine ⟨hmine, c'.toList.take (L'.length * e), ⟨h10, .inr ⟨g, cap, c', by rw [hL]; exact hv, hbase, q2, by omega, hmax, by rw [q3]; exact hcs, rfl⟩⟩, hlen, fun i x k d u hx hd hu => ?_⟩
      have hi : i < L.length := by have := (List.getElem?_eq_some_iff.1 hx).1; omega
      have hk : k < e := by have := (List.getElem?_eq_some_iff.1 hd).1; rw [hlen i x hx] at this; exact this
      have hb : i * e + e ≤ L.length * e := by
        have := Nat.mul_le_mul_right e (show i + 1 ≤ L.length from hi)
        rw [Nat.succ_mul] at this; exact this
      rw [hL, List.getElem?_take_of_lt (by omega), Array.getElem?_toList, q4] at hu
      simp only [Nat.add_zero] at hu
      refine Rep.mono ?_ hle.still
      rcases hnew i x k d hx hd with ⟨h1, h2⟩ | ⟨h1, y, h2, h3⟩
      · rw [if_pos h1] at hu
        exact h2 u hu
      · rw [if_neg h1] at hu
        refine hrep0 i y k d u h2 h3 ?_
        rw [← htk, List.getElem?_take_of_lt (by omega), Array.getElem?_toList]
        exact hu
    · rw [lget_ne _ _ hj] at h
      obtain ⟨h1, xs2, ⟨h2, h2'⟩, h3, h4⟩ := hs.heap.grow j α el' e' enc' L2 h
      refine ⟨h1, xs2, ⟨h2, ?_⟩, h3, fun i x k d u hx hd hu => (h4 i x k d u hx hd hu).mono hle.still⟩
      rcases h2' with h2' | ⟨g2, cap2, cur2, hv2, hb2, hg2, hr2⟩
      · exact .inl h2'
      · refine .inr ⟨g2, cap2, cur2, hv2, hb2, (q9 g2 ?_).trans hg2, hr2⟩
        rintro rfl
        exact hj (hs.heap.apart j id _ (.inr (.inl ⟨α, el', e', enc', L2, h, by rw [hv2]; rfl⟩)) howng)
  · by_cases hj : j = id
    · subst hj; exact hs.heap.below j _ hid
    · rw [lget_ne _ _ hj] at h; exact hs.heap.below j o h

theorem row_apart {i i' e j j' : Nat} (h : i ≠ i') (hj : j < e) (hj' : j' < e) : i * e + j ≠ i' * e + j' := by
  rcases Nat.lt_or_gt_of_ne h with h | h
  · have := Nat.mul_le_mul_right e (show i + 1 ≤ i' from h)
    rw [Nat.succ_mul] at this
    omega
  · have := Nat.mul_le_mul_right e (show i' + 1 ≤ i from h)
    rw [Nat.succ_mul] at this
    omega

theorem still_of_cut {C : Ctx} {d : D} {u : Value} (h : cutOk 6 0 d = true) (hr : Rep C d u) : Rep C.still d u :=
  (cut_rep 6 d _ u h hr).mono ⟨fun _ _ _ h => h, fun _ h => h, fun _ _ _ h => absurd h.1 (Nat.not_lt_zero _), fun _ _ h => absurd h.1 (Nat.not_lt_zero _), fun _ _ _ h => absurd h.1 (Nat.not_lt_zero _)⟩

theorem loud_clear (htt : ttOk P tt) {o : Oper} {t : TypeId} {x : Operand} (ho : o.op = .call { callee := .builtin .clear, args := #[x], argTypes := #[t] }) {K : D → St → Prop} (h : clearD tt s t (evD s x) K) : OpVC P false o s K := by
  intro E σ τ a w hs next Q hn
  unfold clearD at h
  split at h
  · rename_i el _ _ _ ht
    obtain ⟨de, i, z, k1, _, _, k4, _⟩ := view_spec (tfind_view htt ht)
    have := ud_slice k4; subst this
    split at h
    · rename_i ti he
      obtain ⟨_, q, zv, q1, q2, q3, _, q5, q6, q7⟩ := view_spec (tfind_view htt he)
      split at h
      · rename_i id e lo n hx
        split at h
        · rename_i β el' k enc L hl
          obtain ⟨hke, hte, hzl, hke0, hn0, hln, y, hy, hones, hk⟩ := h
          subst hke
          have hxr := evD_rep hs x
          rw [hx] at hxr
          generalize hpx : a.eval x = px at hxr
          obtain ⟨F, H, nx, G⟩ := s
          have hzs : zv.cells.size = k := by
            have h1 := congrArg List.length q7
            rw [hzl] at h1
            simpa using h1
          have hzr : reps (ctxOf E H nx σ τ w) (ti.zero.map .v) zv.cells.toList := zero_reps q7
          have hz1 := ones_rep (ctx_sane hs.heap) hones hzr
          have hke := hke0
          cases hxr with
          | win hop hc =>
            rename_i c p
            obtain ⟨_, hp⟩ := hop hn0
            injection hp with hp
            subst hp
            have hvl : (Builtin.zeroCells zv.cells n).toList.length = n * k := by simp [Builtin.zeroCells, hzs]
            have hvg : ∀ j, j < n * k → (Builtin.zeroCells zv.cells n).toList[j]? = zv.cells[j % k]? := by
              intro j hj
              have hm : j % k < zv.cells.size := by rw [hzs]; exact Nat.mod_lt _ hke
              simp only [Builtin.zeroCells, hzs, Array.toList_map, List.getElem?_map, Array.getElem?_toList, Array.getElem?_range, hj, if_true, Option.map_some]
              rw [getElem!_pos zv.cells _ hm, Array.getElem?_eq_getElem hm]
            have hget : ∀ (i : Nat) x, (L.take lo ++ List.replicate n y ++ L.drop (lo + n))[i]? = some x → (lo ≤ i ∧ i < lo + n ∧ x = y) ∨ ((i < lo ∨ lo + n ≤ i) ∧ L[i]? = some x) := by
              intro i x hx
              have hl1 : (L.take lo).length = lo := by rw [List.length_take]; omega
              have hl2 : (L.take lo ++ List.replicate n y).length = lo + n := by rw [List.length_append, hl1, List.length_replicate]
              by_cases h1 : i < lo
              · rw [List.getElem?_append_left (by omega), List.getElem?_append_left (by omega), List.getElem?_take_of_lt h1] at hx
                exact .inr ⟨.inl h1, hx⟩
              · by_cases h2 : i < lo + n
                · rw [List.getElem?_append_left (by omega), List.getElem?_append_right (by omega)] at hx
                  exact .inl ⟨by omega, h2, List.eq_of_mem_replicate (List.mem_of_getElem? hx)⟩
                · rw [List.getElem?_append_right (by omega), hl2, List.getElem?_drop, show lo + n + (i - (lo + n)) = i by omega] at hx
                  exact .inr ⟨.inr (by omega), hx⟩
            obtain ⟨_, _, _, hlen0, _⟩ := hs.heap.grow id _ _ _ _ _ hl
            have hyl : (enc y).length = k := by rw [hy, List.length_map, hzl]
            obtain ⟨w', r1, r2⟩ := over_state (P := P) (L' := L.take lo ++ List.replicate n y ++ L.drop (lo + n)) hs hl (by simp; omega) (Builtin.zeroCells zv.cells n).toList (lo * k) (fun v hv => by
                obtain ⟨j, hj, rfl⟩ := List.mem_iff_getElem.1 hv
                have h1 := hvg j (by rw [← hvl]; exact hj)
                rw [List.getElem?_eq_getElem hj] at h1
                exact hz1 _ (List.mem_of_getElem? (i := j % k) (by rw [Array.getElem?_toList, ← h1])))
              (by omega) (by rw [hvl, ← Nat.add_mul]; exact Nat.mul_le_mul_right k hln)
              (fun i x hx => by
                rcases hget i x hx with ⟨_, _, rfl⟩ | ⟨_, h1⟩
                · exact hyl
                · exact hlen0 i x h1)
              (fun i x j d hx hd => by
                rcases hget i x hx with ⟨h1, h2, rfl⟩ | ⟨h1, h2⟩
                · have hj : j < k := by have := (List.getElem?_eq_some_iff.1 hd).1; omega
                  have hb := Nat.mul_le_mul_right k (show i + 1 ≤ lo + n from h2)
                  rw [Nat.succ_mul, Nat.add_mul] at hb
                  have hb2 := Nat.mul_le_mul_right k h1
                  rw [hvl]
                  refine .inl ⟨⟨by omega, by omega⟩, fun u hu => ?_⟩
                  rw [hy, List.getElem?_map] at hd
                  have hsub : i * k + j - lo * k = (i - lo) * k + j := by rw [Nat.sub_mul]; omega
                  have hlt : (i - lo) * k + j < n * k := by rw [← hsub]; omega
                  rw [hsub, hvg _ hlt, show ((i - lo) * k + j) % k = j by rw [Nat.add_comm, Nat.add_mul_mod_self_right]; exact Nat.mod_eq_of_lt hj, ← Array.getElem?_toList, q7] at hu
                  rw [hu] at hd
                  simp only [Option.map_some, Option.some.injEq] at hd
                  subst hd
                  exact .v
                · refine .inr ⟨fun hr => ?_, x, h2, hd⟩
                  have hj : j < k := by have := (List.getElem?_eq_some_iff.1 hd).1; rw [hlen0 i x h2] at this; exact this
                  rw [hvl] at hr
                  rcases h1 with h1 | h1
                  · have hb := Nat.mul_le_mul_right k (show i + 1 ≤ lo from h1)
                    rw [Nat.succ_mul] at hb
                    omega
                  · have hb := Nat.mul_le_mul_right k h1
                    rw [Nat.add_mul] at hb
                    omega)
            obtain ⟨m, rfl⟩ : ∃ m, n = m + 1 := ⟨n - 1, by omega⟩
            have hclear : (Builtin.clear_ #[t] o.type #[.slice (some ⟨(τ id).ownBlock.getD 0, lo * k, none⟩) (m + 1) c]).run P w = .ok (.tuple #[]) w' := by
              simp [Builtin.clear_, run_und k1, zero_run q2 q3, r1]
            have hrun : (execOp a.eval o).run P w = .ok (.value (.tuple #[])) w' := by
              simp [execOp, ho, resolve, invoke, builtin, hpx, hclear]
            unfold Oper.wp
            rw [hrun]
            exact hn _ _ _ _ _ _ hk r2 (.tup rfl fun j d u hd hu => by cases hd) (fun hg => by cases hg)
        · cases h
      · cases h
    · cases h
  · cases h

theorem loud_alloc (htt : ttOk P tt) {o : Oper} {t : TypeId} (ho : o.op = .alloc t) {g : Bool} {K : D → St → Prop} (h : match tfind tt t with
    | some ti => allocD tt s t (ti.zero.map .v) K
    | none => False) : OpVC P g o s K := by
  intro E σ τ a w hs next Q hn
  split at h
  · rename_i ti ht
    obtain ⟨de, i, z, k1, k2, k3, k4, _, _, k7⟩ := view_spec (tfind_view htt ht)
    unfold allocD at h
    rw [ht] at h
    simp only at h
    split at h
    · obtain ⟨F, H, nx, G⟩ := s
      have := hn _ _ _ _ _ _ h (alloc_state hs (el := t) (c := z.cells) (zero_reps k7)) (alloc_rep hs _ _ _) (fun _ => (Below.refl _ _).alloc (Nat.le_refl _) _)
      have hrun : (execOp a.eval o).run P w = .ok (.value (.pointer (some ⟨w.heap.size, 0, none⟩))) (w.alloc (.cells z.cells t)) := by
        simp [execOp, ho, Instr.alloc, zero_run k2 k3, newVar, newRow_at]
      unfold Oper.wp
      rw [hrun]
      exact this
    · cases h
  · cases h

theorem loud_box {o : Oper} {t : TypeId} {x : Operand} (ho : o.op = .box t x) {g : Bool} {K : D → St → Prop} (h : match cellsD (evD s x) with
    | some l => allocD tt s t l K
    | none => False) : OpVC P g o s K := by
  intro E σ τ a w hs next Q hn
  split at h
  · rename_i l hl
    unfold allocD at h
    split at h
    · split at h
      · obtain ⟨F, H, nx, G⟩ := s
        have hc := cells_rep (ctx_sane hs.heap) hl (evD_rep hs x)
        have := hn _ _ _ _ _ _ h (alloc_state hs (el := t) (c := (a.eval x).cells) hc) (alloc_rep hs _ _ _) (fun _ => (Below.refl _ _).alloc (Nat.le_refl _) _)
        have hrun : (execOp a.eval o).run P w = .ok (.value (.pointer (some ⟨w.heap.size, 0, none⟩))) (w.alloc (.cells (a.eval x).cells t)) := by
          simp [execOp, ho, Instr.box, newVar, newRow_at]
        unfold Oper.wp
        rw [hrun]
        exact this
      · cases h
    · cases h
  · cases h

theorem loud_store (htt : ttOk P tt) {o : Oper} {t : TypeId} {x v : Operand} (ho : o.op = .store t x v) {K : D → St → Prop} (h : storeD tt s t (evD s x) (evD s v) K) : OpVC P false o s K := by
  intro E σ τ a w hs next Q hn
  unfold storeD at h
  split at h
  · rename_i ti c ht hc
    obtain ⟨de, i, z, k1, k2, _, _, k5, _⟩ := view_spec (tfind_view htt ht)
    split at h
    · rename_i hones hlen
      split at h
      · rename_i id off hx
        split at h
        · rename_i el l hl
          split at h
          · rename_i l' hput
            obtain ⟨F, H, nx, G⟩ := s
            have hcr := cells_rep (ctx_sane hs.heap) hc (evD_rep hs v)
            have hxr := evD_rep hs x
            rw [hx] at hxr
            generalize hpx : a.eval x = px at hxr
            cases hxr with
            | loc hloc =>
              obtain ⟨_, rfl⟩ := hloc
              obtain ⟨_, arr, g2, g3, g4⟩ := hs.heap.cells id el l hl
              obtain ⟨p1, p2, p3⟩ := putD_spec _ _ _ _ hput
              have hlen' : c.length = ti.size := by rw [← lenL_eq]; exact Nat.eq_of_beq_eq_true hlen
              have hone := ones_rep (ctx_sane hs.heap) hones hcr
              obtain ⟨w', c', q1, q2, q3, q4, q5, q6, q7, q8, q9⟩ := storeCells_run (P := P) (b := σ id) (off := off) (el := el) (a.eval v).cells.toList 0 w arr hone g2 (by rw [hcr.1]; omega)
              have hr : reps (ctxOf E H nx σ τ w) l' c'.toList := by
                refine ⟨by simp only [Array.length_toList, q3]; omega, fun j d u hd hu => ?_⟩
                rw [Array.getElem?_toList, q4 j] at hu
                rw [p3 j] at hd
                simp only [Nat.add_zero, hcr.1] at hu
                by_cases hj : off ≤ j ∧ j < off + c.length
                · rw [if_pos hj] at hd hu
                  exact hcr.2 _ d u hd hu
                · rw [if_neg hj] at hd hu
                  exact g4 j d u hd hu
              obtain ⟨r1, r2⟩ := store_state hs hl q2 (run_mono _ _ _ _ q1) q5 q6 q7 q8 q9 hr
              have hfin := hn _ _ _ _ undef _ h r1 .v (fun hg => by cases hg)
              have hrun : (execOp a.eval o).run P w = .ok .skip w' := by
                have hsz : (a.eval v).cells.size = i.size := by have := hcr.1; simp only [Array.length_toList] at this; omega
                simp only [execOp, ho, Instr.storeAt, Sem.run_bind, hpx, Instr.sureAddr, Sem.run_pure, Result.andThen_ok, storeVar, run_size k2, hsz, ne_eq, not_true_eq_false, if_false, q1]
              unfold Oper.wp
              rw [hrun]
              exact hfin
          · cases h
        · cases h
      · rename_i id e ix off hx
        split at h
        · rename_i β el k enc L hl
          obtain ⟨hke, hi, h⟩ := h
          subst hke
          have hxk : L[ix]? = some L[ix] := List.getElem?_eq_getElem hi
          have h := h _ hxk
          split at h
          · rename_i c' hput
            obtain ⟨hcut, y, hy, hk⟩ := h
            obtain ⟨F, H, nx, G⟩ := s
            have hcr := cells_rep (ctx_sane hs.heap) hc (evD_rep hs v)
            have hxr := evD_rep hs x
            rw [hx] at hxr
            generalize hpx : a.eval x = px at hxr
            cases hxr with
            | op hop =>
              obtain ⟨_, rfl⟩ := hop
              obtain ⟨_, _, _, hlen0, _⟩ := hs.heap.grow id _ _ _ _ _ hl
              obtain ⟨p1, p2, p3⟩ := putD_spec _ _ _ _ hput
              have hlen' : c.length = ti.size := by rw [← lenL_eq]; exact Nat.eq_of_beq_eq_true hlen
              have hone := ones_rep (ctx_sane hs.heap) hones hcr
              have hel := hlen0 ix _ hxk
              rw [hel] at p2
              have hib := Nat.mul_le_mul_right k (show ix + 1 ≤ L.length from hi)
              rw [Nat.succ_mul] at hib
              have hget : ∀ (i' : Nat) x', (L.set ix y)[i']? = some x' → (i' = ix ∧ x' = y) ∨ (i' ≠ ix ∧ L[i']? = some x') := by
                intro i' x' hx'
                rw [List.getElem?_set] at hx'
                by_cases h1 : ix = i'
                · subst h1
                  rw [if_pos rfl, if_pos hi] at hx'
                  injection hx' with hx'
                  exact .inl ⟨rfl, hx'.symm⟩
                · rw [if_neg h1] at hx'
                  exact .inr ⟨fun h2 => h1 h2.symm, hx'⟩
              obtain ⟨w', r1, r2⟩ := over_state (P := P) (L' := L.set ix y) hs hl (by simp) (a.eval v).cells.toList (ix * k + off) hone (by omega) (by rw [hcr.1]; omega)
                (fun i' x' hx' => by
                  rcases hget i' x' hx' with ⟨_, rfl⟩ | ⟨_, h1⟩
                  · rw [hy, p1]; exact hel
                  · exact hlen0 i' x' h1)
                (fun i' x' j d hx' hd => by
                  rw [hcr.1]
                  rcases hget i' x' hx' with ⟨rfl, rfl⟩ | ⟨hne, h1⟩
                  · rw [hy, p3 j] at hd
                    by_cases hj : off ≤ j ∧ j < off + c.length
                    · rw [if_pos hj] at hd
                      refine .inl ⟨⟨by omega, by omega⟩, fun u hu => ?_⟩
                      rw [show i' * k + j - (i' * k + off) = j - off by omega] at hu
                      exact still_of_cut (all_at hcut hd) (hcr.2 _ d u hd hu)
                    · rw [if_neg hj] at hd
                      exact .inr ⟨fun hr => hj ⟨by omega, by omega⟩, _, hxk, hd⟩
                  · refine .inr ⟨fun hr => ?_, x', h1, hd⟩
                    have hj : j < k := by have := (List.getElem?_eq_some_iff.1 hd).1; rw [hlen0 i' x' h1] at this; exact this
                    exact row_apart (j' := i' * k + j - ix * k) hne hj (by omega) (by omega))
              have hfin := hn _ _ _ _ undef _ hk r2 .v (fun hg => by cases hg)
              have hrun : (execOp a.eval o).run P w = .ok .skip w' := by
                have hsz : (a.eval v).cells.size = i.size := by have := hcr.1; simp only [Array.length_toList] at this; omega
                simp only [execOp, ho, Instr.storeAt, Sem.run_bind, hpx, Instr.sureAddr, Sem.run_pure, Result.andThen_ok, storeVar, run_size k2, hsz, ne_eq, not_true_eq_false, if_false, r1]
              unfold Oper.wp
              rw [hrun]
              exact hfin
          · cases h
        · cases h
      · cases h
    · cases h
  · cases h
end
end Go.Proofs.Ytfghccppoilfhaa.V
