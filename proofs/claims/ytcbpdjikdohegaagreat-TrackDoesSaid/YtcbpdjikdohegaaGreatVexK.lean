/-
  Exact pointers and rows: blocks of one's own that are known by their number; laws of what is done with them. Condition: the table of types says what the program's says.
-/
import Derived.Test.YtcbpdjikdohegaaGreatVuK
import Derived.Test.YtcbpdjikdohegaaGreatK1
namespace Go.Proofs.YtcbpdjikdohegaaGreat.V
open Go.RowKit

def blkR (g : Nat) (o : Obj) (C : Ctx) (b : Nat) (S : Nat → Prop) : Prop := b = g ∧ (∀ k, S k ↔ k = g) ∧ C.w.heap[g]? = some o
def blkA (g : Nat) (o : Obj) : SepA := ⟨blkR g o, fun h hk _ => ⟨h.1, h.2.1, hk _ _ ((h.2.1 _).2 rfl) h.2.2⟩⟩
def celO (el : TypeId) (cur : List Value) : Obj := .cells cur.toArray el (0, 0)

section
variable {P : Program} {tt : TT} {E : Env} {s : St} {σ : Nat → Nat} {τ : Nat → Value} {a : Act} {w : World}

theorem owned_swap {H : List (Nat × LO)} {id : Nat} {o o' : OA} {j n : Nat} (hid : lget H id = some (.obj o)) (hf : ∀ k, o'.foot (σ id) k → o.foot (σ id) k) (h : owned ((id, .obj o') :: H) σ τ j n) : owned H σ τ j n := by
  by_cases hj : j = id
  · subst hj
    rcases h with ⟨el', l', h1, rfl⟩ | ⟨α, el', e, enc, L, h1, h2⟩ | ⟨o, h1, h2⟩
    · rw [lget_same] at h1; cases h1
    · rw [lget_same] at h1; cases h1
    · rw [lget_same] at h1
      injection h1 with h1; injection h1 with h1; subst h1
      exact .inr (.inr ⟨_, hid, hf _ h2⟩)
  · rcases h with ⟨el', l', h1, rfl⟩ | ⟨α, el', e, enc, L, h1, h2⟩ | ⟨o, h1, h2⟩
    rotate_left 2
    · rw [lget_ne _ _ hj] at h1
      exact .inr (.inr ⟨o, h1, h2⟩)
    · rw [lget_ne _ _ hj] at h1
      exact .inl ⟨el', l', h1, rfl⟩
    · rw [lget_ne _ _ hj] at h1
      exact .inr (.inl ⟨α, el', e, enc, L, h1, h2⟩)

theorem swap_state (hs : SR E s σ τ a w) {id : Nat} {o o' : OA} (hid : lget s.H id = some (.obj o)) (hf : ∀ k, o'.foot (σ id) k → o.foot (σ id) k) (hat : o.at (ctxOf E s.H s.nx σ τ w).still (σ id) → ∀ C : Ctx, C.w = w → o'.at C.still (σ id)) :
    SR E ⟨s.F, (id, .obj o') :: s.H, s.nx, s.G⟩ σ τ a w := by
  have hle : (ctxOf E s.H s.nx σ τ w).Le (ctxOf E ((id, .obj o') :: s.H) s.nx σ τ w) :=
    ⟨fun _ _ _ h => h, fun b hb => ⟨hb.1, hb.2.1, fun j ho => hb.2.2 j (owned_swap hid hf ho)⟩, fun _ _ _ hv => hv, fun _ _ hv => hv, fun _ _ _ hv => hv⟩
  refine ⟨⟨hs.heap.kept, hs.heap.few, fun j el' l2 h => ?_, fun j α el' e enc L h => ?_, fun i j b h1 h2 => hs.heap.apart i j b (owned_swap hid hf h1) (owned_swap hid hf h2), fun j o h => ?_, hs.heap.slices, fun j o2 h => ?_⟩, hs.defers, hs.size, fun i d h => (hs.slots i d h).mono hle, hs.ghost_le rfl hle, hs.room⟩
  · have hj : j ≠ id := by rintro rfl; rw [lget_same] at h; cases h
    rw [lget_ne _ _ hj] at h
    obtain ⟨h1, c, h2, h3, h4⟩ := hs.heap.cells j el' l2 h
    exact ⟨h1, c, h2, h3, fun j d u hd hu => (h4 j d u hd hu).mono hle⟩
  · have hj : j ≠ id := by rintro rfl; rw [lget_same] at h; cases h
    rw [lget_ne _ _ hj] at h
    obtain ⟨h1, xs, h2, h3, h4⟩ := hs.heap.grow j α el' e enc L h
    exact ⟨h1, xs, h2, h3, fun i x j d u hx hd hu => (h4 i x j d u hx hd hu).mono hle.still⟩
  · by_cases hj : j = id
    · subst hj; exact hs.heap.below j _ hid
    · rw [lget_ne _ _ hj] at h; exact hs.heap.below j o h
  · by_cases hj : j = id
    · subst hj
      rw [lget_same] at h
      injection h with h; injection h with h; subst h
      obtain ⟨h1, h2⟩ := hs.heap.obj j o hid
      exact ⟨fun k hk => h1 k (hf k hk), hat h2 _ rfl⟩
    · rw [lget_ne _ _ hj] at h
      obtain ⟨h1, h2⟩ := hs.heap.obj j o2 h
      exact ⟨h1, OA.at_mono h2 (fun _ _ => rfl) (Nat.le_refl _) hle.still⟩

theorem blk_at (hs : SR E s σ τ a w) {id g : Nat} {S : Nat → Prop} {o : Obj} (hid : lget s.H id = some (.obj (.sep S (blkA g o)))) : w.heap[g]? = some o ∧ σ id = g :=
  ⟨(hs.heap.obj id _ hid).2.2.2, (hs.heap.obj id _ hid).2.1⟩

theorem celO_cells {w : World} {g : Nat} {el : TypeId} {cur : List Value} (h : w.heap[g]? = some (celO el cur)) {o : Nat} {v : Value} (hv : cur[o]? = some v) : w.cell? ⟨g, o, none⟩ = some v := by
  simp only [World.cell?, h, celO]
  simpa using hv

theorem pv_len (htt : ttOk P tt) {x : Operand} {t e : TypeId} {sz by_ : Nat} {z : List Value} {ad : Addr} {n c : Nat} {K : D → Prop} {o : Op} (ho : o = .call { callee := .builtin .len, args := #[x], argTypes := #[t] }) (hx : evD s x = .v (.slice (some ad) n c)) (ht : tfind tt t = some ⟨.slice e, sz, by_, z⟩) (hk : K (.v (.int .i64 n))) : PureVC P s o K := by
  refine ⟨fun o' ho' E σ τ a w hs => ?_⟩
  obtain ⟨de, i, zv, k1, _, _, k4, _⟩ := view_spec (tfind_view htt ht)
  have := ud_slice k4; subst this
  have hv := evD_rep hs x
  rw [hx] at hv
  have hv := rep_v hv
  refine ⟨_, _, hk, .v, fun w' _ => ?_⟩
  simp [execOp, ho', ho, resolve, invoke, builtin, hv, Builtin.len_, run_und k1, goInt]

theorem pv_index (htt : ttOk P tt) {x y : Operand} {t e : TypeId} {sz by_ : Nat} {z : List Value} {ti : TI} {g p n c : Nat} {ik : IntKind} {m : Int} {K : D → Prop} (hx : evD s x = .v (.slice (some ⟨g, p, none⟩) n c)) (hy : evD s y = .v (.int ik m)) (ht : tfind tt t = some ⟨.slice e, sz, by_, z⟩) (he : tfind tt e = some ti)
    (h0 : 0 ≤ m) (h1 : m < (n : Int)) (hk : K (.v (.pointer (some ⟨g, p + m.toNat * ti.size, none⟩)))) : PureVC P s (.indexAddr t x y) K := by
  refine ⟨fun o' ho' E σ τ a w hs => ?_⟩
  obtain ⟨de, i, zv, k1, _, _, k4, _⟩ := view_spec (tfind_view htt ht)
  have := ud_slice k4; subst this
  obtain ⟨_, q, _, _, q2, _, _, q5, _⟩ := view_spec (tfind_view htt he)
  have hv := evD_rep hs x
  rw [hx] at hv
  have hv := rep_v hv
  have hw := evD_rep hs y
  rw [hy] at hw
  have hw := rep_v hw
  refine yields_of (s := Instr.indexAt t (a.eval x) (a.eval y)) (by simp only [execOp, ho']) ⟨_, _, hk, .v, fun w' => ?_⟩
  rw [hv, hw, index_slice_run k1 q2 h0 h1, q5]

theorem pv_load (htt : ttOk P tt) {x : Operand} {t : TypeId} {ti : TI} {g p id : Nat} {S : Nat → Prop} {el : TypeId} {cur : List Value} {v : Value} {K : D → Prop} (hx : evD s x = .v (.pointer (some ⟨g, p, none⟩))) (ht : tfind tt t = some ti) (hr : ti.ud.isRow = false)
    (hid : lget s.H id = some (.obj (.sep S (blkA g (celO el cur))))) (hv : cur[p]? = some v) (hk : K (.v v)) : PureVC P s (.load t x) K := by
  refine ⟨fun o' ho' E σ τ a w hs => ?_⟩
  have hxv := evD_rep hs x
  rw [hx] at hxv
  have hxv := rep_v hxv
  have hc := celO_cells (blk_at hs hid).1 hv
  have hof : ofCellsD ti [.v v] = some (.v v) := by unfold ofCellsD; rw [hr]
  obtain ⟨v', h1, h2⟩ := load_run (P := P) (C := ctxOf E s.H s.nx σ τ w) (b := g) (o := p) (tfind_view htt ht) (reps_cons .v reps_nil) hof
  have h1 := rep_v h1
  subst h1
  refine ⟨_, _, hk, .v, fun w' hw' => ?_⟩
  rcases hw' with hw' | hw'
  · rw [ho'] at hw'; cases hw'
  have h3 := h2 w' fun j u hj => by
    cases j with
    | zero =>
      simp only [List.getElem?_cons_zero, Option.some.injEq] at hj
      subst hj
      exact hw'.1 _ _ _ hc
    | succ j => simp at hj
  simp [execOp, ho', hxv, h3]

theorem pv_slice (htt : ttOk P tt) {x lo : Operand} {t e : TypeId} {sz by_ : Nat} {z : List Value} {ti : TI} {g p n c : Nat} {ik : IntKind} {m : Nat} {K : D → Prop} (hx : evD s x = .v (.slice (some ⟨g, p, none⟩) n c)) (hlo : evD s lo = .v (.int ik m)) (ht : tfind tt t = some ⟨.slice e, sz, by_, z⟩) (he : tfind tt e = some ti)
    (hm : m ≤ n) (hnc : n ≤ c) (hk : K (.v (.slice (some ⟨g, if c = m then p else p + m * ti.size, none⟩) (n - m) (c - m)))) : PureVC P s (.slice t x (some lo) none none) K := by
  refine ⟨fun o' ho' E σ τ a w hs => ?_⟩
  obtain ⟨de, i, zv, k1, _, _, k4, _⟩ := view_spec (tfind_view htt ht)
  have := ud_slice k4; subst this
  obtain ⟨_, q, _, _, q2, _, _, q5, _⟩ := view_spec (tfind_view htt he)
  have hv := evD_rep hs x
  rw [hx] at hv
  have hv := rep_v hv
  have hw := evD_rep hs lo
  rw [hlo] at hw
  have hw := rep_v hw
  refine yields_of (s := Instr.sliceAt t (a.eval x) (some (a.eval lo)) none none) (by simp only [execOp, ho', Option.map_some, Option.map_none]) ⟨_, _, hk, .v, fun w' => ?_⟩
  rw [hv, hw]
  simp only [Instr.sliceAt, Sem.run_bind, run_und k1, Result.andThen_ok, Instr.slice, bounds_run2 (lo := some (.int ik m)) (l := m) (hi := none) (h := n) (.inr ⟨ik, rfl⟩) (.inl ⟨rfl, rfl⟩) hnc (Int.natCast_nonneg m) (Int.ofNat_le.2 hm) (Int.ofNat_le.2 hnc), run_size q2, Sem.run_pure, q5, Int.toNat_natCast, Option.map_some, addr_add]
  by_cases hc : c = m <;> simp [hc]

theorem setCell_block {w : World} {g o : Nat} {el : TypeId} {cur : List Value} {v : Value} (h : w.heap[g]? = some (celO el cur)) : w.setCell ⟨g, o, none⟩ v = { w with heap := w.heap.setIfInBounds g (celO el (cur.set o v)) } := by
  have hlt : g < w.heap.size := (Array.getElem?_eq_some_iff.1 h).1
  have hg : w.heap[g] = celO el cur := by simpa [Array.getElem?_eq_getElem hlt] using h
  unfold World.setCell
  congr 1
  apply Array.ext_getElem?
  intro i
  rw [Array.getElem?_modify, Array.getElem?_setIfInBounds]
  by_cases hi : g = i
  · subst hi
    simp only [if_true, h, Option.map_some, hlt, celO, Option.isSome_none, Bool.false_eq_true, if_false]
    congr 2
    apply Array.ext'
    simp
  · simp only [hi, if_false]

theorem setBlk_state (hs : SR E s σ τ a w) {id g : Nat} {S : Nat → Prop} {o : Obj} (hid : lget s.H id = some (.obj (.sep S (blkA g o)))) (o' : Obj) :
    SR E ⟨s.F, (id, .obj (.sep S (blkA g o'))) :: s.H, s.nx, s.G⟩ σ τ a { w with heap := w.heap.setIfInBounds g o' } := by
  obtain ⟨hb, hσ⟩ := blk_at hs hid
  have hS : ∀ k, S k ↔ k = g := (hs.heap.obj id _ hid).2.2.1
  have h1 : SR E ⟨s.F, (id, .obj (.ob o)) :: s.H, s.nx, s.G⟩ σ τ a w := swap_state (o' := .ob o) hs hid (fun k hk => (hS k).2 (by rw [← hσ]; exact hk)) fun _ C hC => by show C.w.heap[σ id]? = _; rw [hC, hσ]; exact hb
  have h2 := setObj_state h1 (lget_same _ _ _) o'
  rw [hσ] at h2
  have h3 := swap_state (o' := .sep S (blkA g o')) h2 (lget_same _ _ _) (fun k hk => by show k = σ id; rw [hσ]; exact (hS k).1 hk) fun _ C hC => ⟨hσ, hS, by
    rw [show C.still.w = C.w from rfl, hC]
    have : g < w.heap.size := (Array.getElem?_eq_some_iff.1 hb).1
    show (w.heap.setIfInBounds g o')[g]? = _
    simp [this]⟩
  have drop2 : ∀ {H : List (Nat × LO)} {x y : LO} {F : List (Nat × D)} {nx : Nat} {G : List Nat × Nat} {w : World}, SR E ⟨F, (id, x) :: (id, y) :: H, nx, G⟩ σ τ a w → SR E ⟨F, (id, x) :: H, nx, G⟩ σ τ a w := by
    intro H x y F nx G w h
    have hl : ∀ j, lget ((id, x) :: (id, y) :: H) j = lget ((id, x) :: H) j := fun j => by
      by_cases hj : j = id
      · subst hj; rw [lget_same, lget_same]
      · rw [lget_ne _ _ hj, lget_ne _ _ hj, lget_ne _ _ hj]
    have ho : ∀ j k, owned ((id, x) :: H) σ τ j k ↔ owned ((id, x) :: (id, y) :: H) σ τ j k := fun j k => by unfold owned; rw [hl]
    have hc : ctxOf E ((id, x) :: (id, y) :: H) nx σ τ w = ctxOf E ((id, x) :: H) nx σ τ w := by unfold ctxOf; simp only [ho]
    have hh := h.heap
    refine ⟨⟨hh.kept, hh.few, fun j el l hj => ?_, fun j α el e enc L hj => ?_, fun i j k h1 h2 => hh.apart i j k ((ho _ _).1 h1) ((ho _ _).1 h2), fun j o hj => hh.below j o ((hl j).trans hj), hh.slices, fun j o hj => ?_⟩, h.defers, h.size, fun j d hd => ?_, fun G d v hx => ?_, h.room⟩
    · have := hh.cells j el l ((hl j).trans hj); rw [hc] at this; exact this
    · have := hh.grow j α el e enc L ((hl j).trans hj); rw [hc] at this; exact this
    · have := hh.obj j o ((hl j).trans hj); rw [hc] at this; exact this
    · have := h.slots j d hd; rw [hc] at this; exact this
    · have := h.ghost G d v hx; rw [hc] at this; exact this
  exact drop2 (drop2 h3)

theorem newBlk_state (hs : SR E s σ τ a w) (o : Obj) : SR E ⟨s.F, (s.nx, .obj (.sep (fun k => k = w.heap.size) (blkA w.heap.size o))) :: s.H, s.nx + 1, s.G⟩ (setN σ s.nx w.heap.size) τ a (w.alloc o) := by
  have h1 := allocObj_state hs o
  have e0 : setN σ s.nx w.heap.size s.nx = w.heap.size := by simp [setN]
  have h2 := swap_state (o' := .sep (fun k => k = w.heap.size) (blkA w.heap.size o)) h1 (lget_same _ _ _) (fun k hk => by show k = setN σ s.nx w.heap.size s.nx; rw [e0]; exact hk) fun _ C hC => ⟨e0, fun _ => Iff.rfl, by
    rw [show C.still.w = C.w from rfl, hC]
    show (w.heap.push _)[w.heap.size]? = _
    simp⟩
  have hl : ∀ (x y : LO) j, lget ((s.nx, x) :: (s.nx, y) :: s.H) j = lget ((s.nx, x) :: s.H) j := fun x y j => by
    by_cases hj : j = s.nx
    · subst hj; rw [lget_same, lget_same]
    · rw [lget_ne _ _ hj, lget_ne _ _ hj, lget_ne _ _ hj]
  revert h2
  generalize (LO.obj (.sep (fun k => k = w.heap.size) (blkA w.heap.size o))) = x
  intro h
  have hl := hl x (.obj (.ob o))
  have ho : ∀ j k, owned ((s.nx, x) :: s.H) (setN σ s.nx w.heap.size) τ j k ↔ owned ((s.nx, x) :: (s.nx, .obj (.ob o)) :: s.H) (setN σ s.nx w.heap.size) τ j k := fun j k => by unfold owned; rw [hl]
  have hc : ctxOf E ((s.nx, x) :: (s.nx, .obj (.ob o)) :: s.H) (s.nx + 1) (setN σ s.nx w.heap.size) τ (w.alloc o) = ctxOf E ((s.nx, x) :: s.H) (s.nx + 1) (setN σ s.nx w.heap.size) τ (w.alloc o) := by unfold ctxOf; simp only [ho]
  have hh := h.heap
  refine ⟨⟨hh.kept, hh.few, fun j el l hj => ?_, fun j α el e enc L hj => ?_, fun i j k h1 h2 => hh.apart i j k ((ho _ _).1 h1) ((ho _ _).1 h2), fun j o hj => hh.below j o ((hl j).trans hj), hh.slices, fun j o hj => ?_⟩, h.defers, h.size, fun j d hd => ?_, fun G d v hx => ?_, h.room⟩
  · have := hh.cells j el l ((hl j).trans hj); rw [hc] at this; exact this
  · have := hh.grow j α el e enc L ((hl j).trans hj); rw [hc] at this; exact this
  · have := hh.obj j o ((hl j).trans hj); rw [hc] at this; exact this
  · have := h.slots j d hd; rw [hc] at this; exact this
  · have := h.ghost G d v hx; rw [hc] at this; exact this

theorem ov_append (htt : ttOk P tt) {o : Oper} {x y : Operand} {t el : TypeId} {sz by_ : Nat} {zz : List Value} {ti : TI} (ho : o.op = .call { callee := .builtin .append, args := #[x, y], argTypes := #[t, t] }) (ht : tfind tt t = some ⟨.slice el, sz, by_, zz⟩) (he : tfind tt el = some ti) (hsz : ti.size = 1) (hzl : ti.zero.length = 1) (hby : ti.bytes ≤ 1048576)
    {g p n c id : Nat} {Sb : Nat → Prop} {cur : List Value} {v : Value} (hx : evD s x = .v (.slice (some ⟨g, p, none⟩) n c)) (hy : evD s y = .lit 1 [[.v v]]) (hv : v.oneCell' = true) (hl : lget s.H id = some (.obj (.sep Sb (blkA g (celO el cur))))) (hfit : p + c ≤ cur.length) (hnc : n ≤ c) (hn : n ≤ 16777216) {K : D → St → Prop}
    (hin : n < c → K (.v (.slice (some ⟨g, p, none⟩) (n + 1) c)) ⟨s.F, (id, .obj (.sep Sb (blkA g (celO el (cur.set (p + n) v))))) :: s.H, s.nx, s.G⟩)
    (hout : c = n → ∀ (g' c' : Nat) (S' : Nat → Prop) (rest : List Value), n < c' → rest.length = c' - (n + 1) → K (.v (.slice (some ⟨g', 0, none⟩) (n + 1) c')) ⟨s.F, (s.nx, .obj (.sep S' (blkA g' (celO el ((cur.drop p).take n ++ v :: rest))))) :: s.H, s.nx + 1, s.G⟩) : OpVC P false o s K := by
  intro E σ τ a w hs next Q hnext
  obtain ⟨de, i, z, k1, _, _, k4, _⟩ := view_spec (tfind_view htt ht)
  have := ud_slice k4; subst this
  obtain ⟨_, q, zv, q1, q2, q3, _, q5, q6, q7⟩ := view_spec (tfind_view htt he)
  have hxv := evD_rep hs x
  rw [hx] at hxv
  have hxv := rep_v hxv
  have hyr := evD_rep hs y
  rw [hy] at hyr
  obtain ⟨py, cy, news, hu, hnl, _, hnrep, hsrc⟩ := src_spec hs (e := 1) (LL := [[.v v]]) Nat.one_pos (by simp [srcRows]) (by simp [litStill, cutOk]) hyr
  obtain ⟨b, of, rfl, hcells⟩ : ∃ b o, py = some ⟨b, o, none⟩ ∧ cellsAt w b o news := by
    rcases hsrc with h | h
    · cases h
    · exact h
  obtain rfl : news = [v] := by
    cases news with
    | nil => simp at hnl
    | cons u r =>
      cases r with
      | cons _ _ => simp at hnl
      | nil =>
        have := rep_v (hnrep 0 [.v v] 0 (.v v) u rfl rfl rfl)
        rw [this]
  obtain ⟨hblk, hσ⟩ := blk_at hs hl
  have hsr : Src P q.size t (a.eval y) 1 [v] w := by
    rw [hu]
    exact Src.ofSlice w k1 _ _ cy [v] (by rw [q5, hsz]; rfl) (fun j u hj => by rw [addr_add]; exact hcells j u hj) (fun u hu => by simp at hu; subst hu; exact hv)
  unfold Oper.wp
  by_cases hc : n < c
  · have hlt : p + n < cur.length := by omega
    have hrun := run_append_room_src (P := P) w t t o.type el q k1 q2 g p n c (a.eval y) 1 [v] hsr hc (fun j hj => by
      have hj : j = 0 := by simpa using hj
      subst hj
      rw [q5, hsz, celO_cells (v := cur[p + n]) hblk (by simp [hlt])]; rfl) (fun j hj => by simp [World.frozen?, hblk, celO])
    have hw : w.setCells g (p + n * q.size) [v] = { w with heap := w.heap.setIfInBounds g (celO el (cur.set (p + n) v)) } := by
      rw [q5, hsz, Nat.mul_one]
      exact setCell_block hblk
    have hexec : (execOp a.eval o).run P w = .ok (.value (.slice (some ⟨g, p, none⟩) (n + 1) c)) { w with heap := w.heap.setIfInBounds g (celO el (cur.set (p + n) v)) } := by
      rw [← hw]
      simp [execOp, ho, resolve, invoke, builtin, hxv, hrun]
    rw [hexec]
    exact hnext _ _ _ _ _ _ (hin hc) (setBlk_state hs hl _) .v (fun h => by cases h)
  · obtain rfl : c = n := by omega
    have hlo : ((cur.drop p).take c).length = c * q.size := by rw [q5, hsz]; simp; omega
    have hold := run_firstCells_some (P := P) w.drew q.size c ⟨g, p, none⟩ c c ((cur.drop p).take c) hlo (fun j u hj => by
      rw [addr_add]
      have hjl : j < c := by have := (List.getElem?_eq_some_iff.1 hj).1; simp at this; omega
      rw [List.getElem?_take_of_lt hjl, List.getElem?_drop] at hj
      exact celO_cells hblk hj)
    have hg : c < c + 1 := Nat.lt_succ_self c
    have hbytes : (c + 1) * q.bytes ≤ 140737488355328 := by
      rw [q6]
      calc (c + 1) * ti.bytes ≤ 16777217 * 1048576 := Nat.mul_le_mul (by omega) hby
        _ ≤ 140737488355328 := by decide
    have hrun := run_append_grow_src (P := P) w t t o.type el q zv k1 q2 q3 (some ⟨g, p, none⟩) c c _ hold (a.eval y) 1 [v] hsr hg (by omega) (growslice_fits hg hbytes)
    have hge := grownCap_ge w (c + 1) c el
    have hexec : (execOp a.eval o).run P w = .ok (.value (.slice (some ⟨w.heap.size, 0, none⟩) (c + 1) (grownCap w (c + 1) c el))) (w.drew.alloc (celO el ((cur.drop p).take c ++ v :: (Builtin.zeroCells zv.cells (grownCap w (c + 1) c el - (c + 1))).toList))) := by
      simp only [execOp, ho, resolve, invoke, builtin, hxv]
      simp [hrun, hxv]
      congr 1
      unfold celO
      congr 1
      apply Array.ext'
      simp
    rw [hexec]
    refine hnext _ _ _ _ _ _ (hout rfl _ _ _ _ (by omega) ?_) (newBlk_state (drew_state hs) _) .v (fun h => by cases h)
    have hzs : zv.cells.size = 1 := by rw [← hzl, ← q7]; simp
    rw [Array.length_toList, size_zeroCells, hzs, Nat.mul_one]
end
end Go.Proofs.YtcbpdjikdohegaaGreat.V
