/-
  Arenas: many blocks that are known by their numbers, held as one object of one's own. Condition: the table of types says what the program's says.
  Loads and stores by exact pointers in an arena; objects of one's own brought into it. Condition: the table of types says what the program's says.
  An object of one's own is brought into an arena: its places are told by its block's number from then on. Condition: none.
  Contracts with an arena: what lies in known blocks before and behind. Conditions: the table of types says what the program's says; functions are entered; plans are ones.
  Contracts with an arena, from the body. Conditions: the table of types says what the program's says; functions are entered; plans are ones.
  Exact pointers: looked whether they are nil, fields, elements, likenesses. Condition: the table of types says what the program's says.
  An object of one's own is brought into an arena ahead of an operation, of a call. Condition: none.
  A contract from the body, where empty arenas stand ready. Conditions: the table of types says what the program's says; functions are entered; plans are ones.
  Arenas, more: maps and rows in known blocks; a row is taken out of an arena, brought into it, frozen; calls that look at an arena. Condition: the table of types says what the program's says.
  A row is taken out of an arena, brought into it, frozen; exact slices looked at; calls that look at an arena. Condition: the table of types says what the program's says.
-/
import Derived.Test.YtfepckbhnghpeaaK1
import Derived.WideKeyEntry
namespace Go.Proofs.Ytfepckbhnghpeaa.V
open Go.RowKit

inductive It : Type 1 where
  | cells (el : TypeId) (l : List D)
  | ob (o : Obj)
abbrev Ar : Type 1 := Nat → Option It
def Ar.upd (M : Ar) (g : Nat) (x : Option It) : Ar := fun k => match Nat.beq k g with
  | true => x
  | false => M k
theorem Ar.upd_same (M : Ar) (g : Nat) (x : Option It) : M.upd g x g = x := by unfold Ar.upd; rw [Nat.beq_refl]
theorem Ar.upd_ne (M : Ar) {g k : Nat} (x : Option It) (h : k ≠ g) : M.upd g x k = M k := by
  unfold Ar.upd
  have : Nat.beq k g = false := by
    cases hq : Nat.beq k g with
    | false => rfl
    | true => exact absurd (Nat.eq_of_beq_eq_true hq) h
  rw [this]
def It.at (x : It) (C : Ctx) (g : Nat) : Prop := match x with
  | .cells el l => ∃ c, C.w.heap[g]? = some (.cells c el (0, 0)) ∧ reps C l c.toList
  | .ob o => C.w.heap[g]? = some o
theorem It.at_le {x : It} {C C' : Ctx} {g : Nat} (h : x.at C g) (hb : ∀ o, C.w.heap[g]? = some o → C'.w.heap[g]? = some o) (hle : C.Le C') : x.at C' g := by
  cases x with
  | cells el l =>
    obtain ⟨c, h1, h2⟩ := h
    exact ⟨c, hb _ h1, h2.1, fun j d u hd hu => (h2.2 j d u hd hu).mono hle⟩
  | ob o => exact hb _ h
theorem It.lt {x : It} {C : Ctx} {g : Nat} (h : x.at C g) : g < C.w.heap.size := by
  cases x with
  | cells el l => obtain ⟨c, h1, _⟩ := h; exact (Array.getElem?_eq_some_iff.1 h1).1
  | ob o => exact (Array.getElem?_eq_some_iff.1 h).1
def arR (M : Ar) (C : Ctx) (_b : Nat) (S : Nat → Prop) : Prop := (∀ k, S k ↔ ∃ x, M k = some x) ∧ ∀ k x, M k = some x → x.at C k
def arA (M : Ar) : SepA := ⟨arR M, fun h hk hle => ⟨h.1, fun k x hx => It.at_le (h.2 k x hx) (fun o ho => hk k o ((h.1 k).2 ⟨x, hx⟩) ho) hle⟩⟩
abbrev arL (S : Nat → Prop) (M : Ar) : LO := .obj (.sep S (arA M))

section
variable {P : Program} {tt : TT} {E : Env} {s : St} {σ : Nat → Nat} {τ : Nat → Value} {a : Act} {w : World}

theorem owned_of {H H' : List (Nat × LO)} {id k : Nat} (h : lget H' id = lget H id) (ho : owned H' σ τ id k) : owned H σ τ id k := by
  unfold owned at ho ⊢
  rw [h] at ho
  exact ho
theorem owned_none {H : List (Nat × LO)} {id k : Nat} (h : lget H id = some .dead) (ho : owned H σ τ id k) : False := by
  rcases ho with ⟨_, _, h1, _⟩ | ⟨_, _, _, _, _, h1, _⟩ | ⟨_, h1, _⟩ <;> (rw [h] at h1; cases h1)
theorem owned_ar {H : List (Nat × LO)} {i k : Nat} {S : Nat → Prop} {M : Ar} (h : lget H i = some (arL S M)) : owned H σ τ i k ↔ S k := by
  constructor
  · rintro (⟨_, _, h1, _⟩ | ⟨_, _, _, _, _, h1, _⟩ | ⟨_, h1, h2⟩)
    · rw [h] at h1; cases h1
    · rw [h] at h1; cases h1
    · rw [h] at h1
      injection h1 with h1; injection h1 with h1; subst h1
      exact h2
  · exact fun hk => .inr (.inr ⟨_, h, hk⟩)

theorem ar_state (hs : SR E s σ τ a w) {i : Nat} {S : Nat → Prop} {M : Ar} (hid : lget s.H i = some (arL S M)) {w' : World} (hos : w'.os = w.os) (htp : w'.tape = w.tape) (hou : w'.output = w.output) (hsz : w.heap.size ≤ w'.heap.size) (hdr : w.drawn ≤ w'.drawn)
    {H' : List (Nat × LO)} {S' : Nat → Prop} {M' : Ar} (hi' : lget H' i = some (arL S' M')) (hH : ∀ id, id ≠ i → lget H' id = lget s.H id ∨ (lget H' id = some .dead ∧ id < s.nx))
    (hk : ∀ k, k < w.heap.size → ¬ S k → w'.heap[k]? = w.heap[k]?)
    (hS' : ∀ k, S' k → k < w'.heap.size ∧ (S k ∨ w.heap.size ≤ k ∨ ∃ id, lget H' id = some .dead ∧ owned s.H σ τ id k))
    (hat : (ctxOf E s.H s.nx σ τ w).Le (ctxOf E H' s.nx σ τ w') → arR M' (ctxOf E H' s.nx σ τ w').still (σ i) S') :
    SR E ⟨s.F, H', s.nx, s.G⟩ σ τ a w' ∧ (ctxOf E s.H s.nx σ τ w).Le (ctxOf E H' s.nx σ τ w') := by
  have hown : ∀ k, owned s.H σ τ i k ↔ S k := fun k => owned_ar hid
  have hback : ∀ id k, id ≠ i → owned H' σ τ id k → owned s.H σ τ id k := fun id k hne ho => by
    rcases hH id hne with h | ⟨h, _⟩
    · exact owned_of h ho
    · exact (owned_none h ho).elim
  have hnot : ∀ k, k < w.heap.size → (∀ id, ¬ owned s.H σ τ id k) → ¬ S' k := fun k hlt hn hk' => by
    rcases (hS' k hk').2 with h | h | ⟨id, _, h⟩
    · exact hn i ((hown k).2 h)
    · omega
    · exact hn id h
  have hle : (ctxOf E s.H s.nx σ τ w).Le (ctxOf E H' s.nx σ τ w') := by
    refine ⟨fun k o hok ho => ?_, fun k hok => ⟨hok.1, Nat.lt_of_lt_of_le hok.2.1 hsz, fun id ho => ?_⟩, fun _ _ _ h => h, fun _ _ h => h, fun _ _ _ h => h⟩
    · exact (hk k hok.2.1 fun h => hok.2.2 i ((hown k).2 h)).trans ho
    · by_cases hne : id = i
      · subst hne
        exact hnot k hok.2.1 hok.2.2 ((owned_ar hi').1 ho)
      · exact hok.2.2 id (hback id k hne ho)
  have hoth : ∀ id k, id ≠ i → lget H' id ≠ some .dead → owned s.H σ τ id k → k < w.heap.size ∧ ¬ S k ∧ w'.heap[k]? = w.heap[k]? := fun id k hne _ ho => by
    have h1 := owned_lt hs.heap ho
    have h2 : ¬ S k := fun h => hne (hs.heap.apart id i k ho ((hown k).2 h))
    exact ⟨h1, h2, hk k h1 h2⟩
  refine ⟨⟨⟨⟨hos.trans hs.heap.kept.os, htp.trans hs.heap.kept.tape, hou.trans hs.heap.kept.output, Nat.le_trans hs.heap.kept.size hsz, fun k hlt hn => ?_, Nat.le_trans hs.heap.kept.drawn hdr⟩, hs.heap.few, fun id el l h => ?_, fun id α el e enc L h => ?_, fun x y k hx hy => ?_, fun id o h => ?_, hs.heap.slices, fun id o h => ?_⟩, hs.defers, hs.size, fun j d hd => (hs.slots j d hd).mono hle, hs.ghost_le (s' := ⟨s.F, H', s.nx, s.G⟩) rfl hle, hs.room⟩, hle⟩
  · have h1 : k < w.heap.size := Nat.lt_of_lt_of_le hlt hs.heap.kept.size
    refine (hk k h1 fun h => ?_).trans (hs.heap.kept.block k hlt hn)
    rcases ((hs.heap.obj i _ hid).1 k h).1 with h2 | h2
    · exact hn h2
    · omega
  · have hne : id ≠ i := by rintro rfl; rw [hi'] at h; cases h
    have hsame : lget s.H id = some (.cells el l) := by
      rcases hH id hne with h1 | ⟨h1, _⟩
      · rw [← h1]; exact h
      · rw [h1] at h; cases h
    obtain ⟨h1, c, h2, h3, h4⟩ := hs.heap.cells id el l hsame
    have h5 := hoth id (σ id) hne (by rw [h]; intro hh; cases hh) (.inl ⟨_, _, hsame, rfl⟩)
    exact ⟨h1, c, h5.2.2.trans h2, h3, fun q d u hd hu => (h4 q d u hd hu).mono hle⟩
  · have hne : id ≠ i := by rintro rfl; rw [hi'] at h; cases h
    have hsame : lget s.H id = some (.grow α el e enc L) := by
      rcases hH id hne with h1 | ⟨h1, _⟩
      · rw [← h1]; exact h
      · rw [h1] at h; cases h
    obtain ⟨h1, xs, ⟨h2, h2'⟩, h3, h4⟩ := hs.heap.grow id α el e enc L hsame
    refine ⟨h1, xs, ⟨h2, ?_⟩, h3, fun q x y d u hx hd hu => (h4 q x y d u hx hd hu).mono hle.still⟩
    rcases h2' with h2' | ⟨g', cap, cur, q1, q2, q3, q4⟩
    · exact .inl h2'
    · have h5 := hoth id g' hne (by rw [h]; intro hh; cases hh) (.inr (.inl ⟨_, _, _, _, _, hsame, by rw [q1]; rfl⟩))
      exact .inr ⟨g', cap, cur, q1, q2, h5.2.2.trans q3, q4⟩
  · have key : ∀ x k, x ≠ i → owned H' σ τ x k → ¬ S' k := fun x k hne ho hk' => by
      have h1 := hback x k hne ho
      rcases (hS' k hk').2 with h | h | ⟨id, hd, h⟩
      · exact hne (hs.heap.apart x i k h1 ((hown k).2 h))
      · have := owned_lt hs.heap h1; omega
      · have h3 := hs.heap.apart x id k h1 h
        subst h3
        exact owned_none hd ho
    by_cases hx1 : x = i
    · by_cases hy1 : y = i
      · rw [hx1, hy1]
      · subst hx1
        exact absurd ((owned_ar hi').1 hx) (key y k hy1 hy)
    · by_cases hy1 : y = i
      · subst hy1
        exact absurd ((owned_ar hi').1 hy) (key x k hx1 hx)
      · exact hs.heap.apart x y k (hback x k hx1 hx) (hback y k hy1 hy)
  · by_cases hne : id = i
    · subst hne; exact hs.heap.below id _ hid
    · rcases hH id hne with h1 | ⟨_, h1⟩
      · exact hs.heap.below id o (h1.symm.trans h)
      · exact h1
  · by_cases hne : id = i
    · subst hne
      rw [hi'] at h
      injection h with h; injection h with h; subst h
      refine ⟨fun k hk' => ⟨?_, (hS' k hk').1⟩, hat hle⟩
      rcases (hS' k hk').2 with h | h | ⟨id, hd, h⟩
      · exact ((hs.heap.obj _ _ hid).1 k h).1
      · exact .inr (Nat.le_trans hs.heap.kept.size h)
      · rcases h with ⟨el, l, h1, rfl⟩ | ⟨α, el, e, enc, L, h1, h2⟩ | ⟨o, h1, h2⟩
        · exact (hs.heap.cells _ _ _ h1).1
        · exact (hs.heap.grow _ _ _ _ _ _ h1).1 k h2
        · exact ((hs.heap.obj _ _ h1).1 k h2).1
    · have hsame : lget s.H id = some (.obj o) := by
        rcases hH id hne with h1 | ⟨h1, _⟩
        · rw [← h1]; exact h
        · rw [h1] at h; cases h
      obtain ⟨h1, h2⟩ := hs.heap.obj id o hsame
      have hnd : lget H' id ≠ some .dead := by rw [h]; intro hh; cases hh
      exact ⟨fun k hk' => ⟨(h1 k hk').1, Nat.lt_of_lt_of_le (h1 k hk').2 hsz⟩, OA.at_le h2 (fun k hk' => (hoth id k hne hnd (.inr (.inr ⟨_, hsame, hk'⟩))).2.2) hle.still⟩
end
end Go.Proofs.Ytfepckbhnghpeaa.V
namespace Go.Proofs.Ytfepckbhnghpeaa.V
open Go.RowKit

def substD : Nat → Nat → Nat → D → D
  | 0, _, _, d => d
  | _ + 1, j, g, .loc id off => match Nat.beq id j with
    | true => .v (.pointer (some ⟨g, off, none⟩))
    | false => .loc id off
  | _ + 1, j, g, .mapr id => match Nat.beq id j with
    | true => .v (.map (some g))
    | false => .mapr id
  | k + 1, j, g, .agg l => .agg (l.map (substD k j g))
  | k + 1, j, g, .tup l => .tup (l.map (substD k j g))
  | k + 1, j, g, .fn f a b => .fn f (a.map (substD k j g)) (b.map (substD k j g))
  | k + 1, j, g, .iface t d => .iface t (substD k j g d)
  | _ + 1, _, _, d => d
theorem subst_rep {C : Ctx} {j g : Nat} (hC : ∀ off v, C.loc j off v → v = .pointer (some ⟨g, off, none⟩)) : ∀ (k : Nat) (d : D) (v : Value), Rep C d v → Rep C (substD k j g d) v := by
  intro k
  induction k with
  | zero => intro d v h; exact h
  | succ k ih =>
    have many : ∀ {l : List D} {c : Array Value}, (∀ (i : Nat) d u, l[i]? = some d → c[i]? = some u → Rep C d u) → ∀ (i : Nat) d u, (l.map (substD k j g))[i]? = some d → c[i]? = some u → Rep C d u := fun {l c} h i d u hd hu => by
      rw [List.getElem?_map] at hd
      cases hq : l[i]? with
      | none => rw [hq] at hd; cases hd
      | some x =>
        rw [hq] at hd
        simp only [Option.map_some, Option.some.injEq] at hd
        subst hd
        exact ih x u (h i x u hq hu)
    intro d v hr
    cases hr with
    | loc hh =>
      rename_i id off
      unfold substD
      split
      · rename_i hb
        have := Nat.eq_of_beq_eq_true hb
        subst this
        rw [hC off _ hh]
        exact .v
      · exact .loc hh
    | agg hs hh => exact .agg (by rw [List.length_map]; exact hs) (many hh)
    | tup hs hh => exact .tup (by rw [List.length_map]; exact hs) (many hh)
    | fn hs ht hh hh' => exact .fn (by rw [List.length_map]; exact hs) (by rw [List.length_map]; exact ht) (many hh) (many hh')
    | iface hh => exact .iface (ih _ _ hh)
    | v => exact .v
    | rows b o g hc hp hl hcell hrep => exact .rows b o g hc hp hl hcell hrep
    | lit b o g hc hp hl hcell hrep => exact .lit b o g hc hp hl hcell hrep
    | emp => exact .emp
    | fp g hk hcell hrep => exact .fp g hk hcell hrep
    | grow hh => exact .grow hh
    | op hh => exact .op hh
    | win hh hc => exact .win hh hc
    | cut hh hn => exact .cut hh hn
    | cap hh hn => exact .cap hh hn
    | asl hh => exact .asl hh
    | mapr hh =>
      rename_i id b
      unfold substD
      split
      · rename_i hb
        have := Nat.eq_of_beq_eq_true hb
        subst this
        have he := hC 0 _ hh
        injection he with he; injection he with he; injection he with he
        subst he
        exact .v
      · exact .mapr hh
    | sp S hA hS => exact .sp S hA hS
    | junk => exact .junk
def substL (j g : Nat) : LO → LO
  | .cells el l => .cells el (l.map (substD 6 j g))
  | x => x

section
variable {P : Program} {tt : TT} {E : Env} {s : St} {σ : Nat → Nat} {τ : Nat → Value} {a : Act} {w : World}

theorem ar_at (hs : SR E s σ τ a w) {i g : Nat} {S : Nat → Prop} {M : Ar} {x : It} (hid : lget s.H i = some (arL S M)) (hM : M g = some x) : x.at (ctxOf E s.H s.nx σ τ w).still g := (hs.heap.obj i _ hid).2.2 g x hM

theorem pv_loadA (htt : ttOk P tt) {x : Operand} {t : TypeId} {ti : TI} {g p i : Nat} {S : Nat → Prop} {M : Ar} {el : TypeId} {l : List D} {d : D} {K : D → Prop} (hx : evD s x = .v (.pointer (some ⟨g, p, none⟩))) (ht : tfind tt t = some ti)
    (hid : lget s.H i = some (arL S M)) (hM : M g = some (.cells el l)) (hl : ofCellsD ti (l.drop p) = some d) (hk : K d) : PureVC P s (.load t x) K := by
  refine ⟨fun o' ho' E σ τ a w hs => ?_⟩
  have hxv := evD_rep hs x
  rw [hx] at hxv
  have hxv := rep_v hxv
  obtain ⟨c, hc, hr⟩ := ar_at hs hid hM
  have hr2 : reps (ctxOf E s.H s.nx σ τ w) (l.drop p) (c.toList.drop p) := by
    refine ⟨by rw [List.length_drop, List.length_drop, hr.1], fun j d u hd hu => ?_⟩
    rw [List.getElem?_drop] at hd hu
    exact (hr.2 _ d u hd hu).mono (Ctx.still_le _)
  obtain ⟨v', h1, h2⟩ := load_run (P := P) (C := ctxOf E s.H s.nx σ τ w) (b := g) (o := p) (tfind_view htt ht) hr2 hl
  refine ⟨_, v', hk, h1, fun w' hw' => ?_⟩
  rcases hw' with hw' | hw'
  · rw [ho'] at hw'; cases hw'
  have h3 := h2 w' fun j u hj => by
    refine hw'.1 _ _ _ ?_
    rw [List.getElem?_drop, Array.getElem?_toList] at hj
    show w.cell? ⟨g, p + j, none⟩ = some u
    have hc : w.heap[g]? = some (.cells c el (0, 0)) := hc
    simp only [World.cell?, hc]
    exact hj
  simp [execOp, ho', hxv, h3]

theorem cut_still {k : Nat} {d : D} {C : Ctx} {v : Value} (h : cutOk k 0 d = true) (hr : Rep C d v) : Rep C.still d v :=
  (cut_rep k d C v h hr).mono ⟨fun _ _ _ h => h, fun _ h => h, fun _ _ _ h => absurd h.1 (Nat.not_lt_zero _), fun _ _ h => absurd h.1 (Nat.not_lt_zero _), fun _ _ _ h => absurd h.1 (Nat.not_lt_zero _)⟩

theorem op_storeA (htt : ttOk P tt) {o : Oper} {x y : Operand} {t : TypeId} {ti : TI} {g p i : Nat} {S : Nat → Prop} {M : Ar} {el : TypeId} {l l' c : List D} (ho : o.op = .store t x y) (hx : evD s x = .v (.pointer (some ⟨g, p, none⟩))) (ht : tfind tt t = some ti)
    (hid : lget s.H i = some (arL S M)) (hM : M g = some (.cells el l)) (hc : cellsD (evD s y) = some c) (hones : onesD c = true) (hlen : c.length = ti.size) (hcut : c.all (cutOk 6 0) = true) (hput : putD l p c = some l') {K : D → St → Prop}
    (h : K (.v undef) ⟨s.F, (i, arL S (M.upd g (some (.cells el l')))) :: s.H, s.nx, s.G⟩) : OpVC P false o s K := by
  intro E σ τ a w hs next Q hn
  obtain ⟨de, q, z, k1, k2, _, _, k5, _⟩ := view_spec (tfind_view htt ht)
  have hxv := evD_rep hs x
  rw [hx] at hxv
  have hxv := rep_v hxv
  obtain ⟨cc, hg, hr⟩ := ar_at hs hid hM
  have hg : w.heap[g]? = some (.cells cc el (0, 0)) := hg
  have hcr := cells_rep (ctx_sane hs.heap) hc (evD_rep hs y)
  have hone := ones_rep (ctx_sane hs.heap) hones hcr
  obtain ⟨p1, p2, p3⟩ := putD_spec _ _ _ _ hput
  have hls : l.length = cc.size := by rw [← Array.length_toList]; exact hr.1.symm
  obtain ⟨w', c', q1, q2, q3, q4, q5, q6, q7, q8, q9⟩ := storeCells_run (P := P) (b := g) (off := p) (el := el) (a.eval y).cells.toList 0 w cc hone hg (by rw [hcr.1]; omega)
  have hrun : (execOp a.eval o).run P w = .ok .skip w' := by
    have hsz : (a.eval y).cells.size = q.size := by have := hcr.1; simp only [Array.length_toList] at this; omega
    simp only [execOp, ho, hxv, Instr.storeAt, Sem.run_bind, Instr.sureAddr, Sem.run_pure, Result.andThen_ok, storeVar, run_size k2, hsz, ne_eq, not_true_eq_false, if_false, q1]
  have hSM := (hs.heap.obj i _ hid).2.1
  have hSg : S g := (hSM g).2 ⟨_, hM⟩
  obtain ⟨r1, r2⟩ := ar_state hs hid (w' := w') q5 q6 q7 (Nat.le_of_eq q8.symm) (run_mono _ _ _ _ q1) (H' := (i, arL S (M.upd g (some (.cells el l')))) :: s.H) (lget_same _ _ _) (fun id hne => .inl (lget_ne _ _ hne)) (fun k _ hk => q9 k fun e => hk (e ▸ hSg))
    (fun k hk => ⟨by rw [q8]; exact ((hs.heap.obj i _ hid).1 k hk).2, .inl hk⟩) (fun hle => by
      refine ⟨fun k => ?_, fun k x hk => ?_⟩
      · by_cases hkg : k = g
        · subst hkg; rw [Ar.upd_same]; exact ⟨fun _ => ⟨_, rfl⟩, fun _ => hSg⟩
        · rw [Ar.upd_ne _ _ hkg]; exact hSM k
      · by_cases hkg : k = g
        · subst hkg
          rw [Ar.upd_same] at hk
          injection hk with hk; subst hk
          refine ⟨c', q2, by rw [Array.length_toList, q3, p1, hls], fun j d u hd hu => ?_⟩
          rw [Array.getElem?_toList, q4 j] at hu
          rw [p3 j] at hd
          simp only [Nat.add_zero, hcr.1] at hu
          by_cases hj : p ≤ j ∧ j < p + c.length
          · rw [if_pos hj] at hd hu
            exact (cut_still (all_at hcut hd) (hcr.2 _ d u hd hu)).mono hle.still
          · rw [if_neg hj] at hd hu
            exact (hr.2 j d u hd (by rw [Array.getElem?_toList]; exact hu)).mono hle.still
        · rw [Ar.upd_ne _ _ hkg] at hk
          exact It.at_le (ar_at hs hid hk) (fun o ho => (q9 k hkg).trans ho) hle.still)
  unfold Oper.wp
  rw [hrun]
  exact hn _ _ _ _ undef _ h r1 .v (fun hg => by cases hg)
end
end Go.Proofs.Ytfepckbhnghpeaa.V
namespace Go.Proofs.Ytfepckbhnghpeaa.V
open Go.RowKit

def mapF (f : D → D) (F : List (Nat × D)) : List (Nat × D) := F.map fun x => (x.1, f x.2)
def mapH (f : LO → LO) (H : List (Nat × LO)) : List (Nat × LO) := H.map fun x => (x.1, f x.2)
theorem lget_map {β : Type 1} (f : β → β) : ∀ (L : List (Nat × β)) (i : Nat), lget (L.map fun x => (x.1, f x.2)) i = (lget L i).map f
  | [], i => rfl
  | (k, x) :: r, i => by
    by_cases hi : i = k
    · subst hi
      rw [List.map_cons, lget_same, lget_same]; rfl
    · rw [List.map_cons, lget_ne _ _ hi, lget_ne _ _ hi, lget_map f r i]

section
variable {E : Env} {s : St} {σ : Nat → Nat} {τ : Nat → Value} {a : Act} {w : World}

theorem subst_state (hs : SR E s σ τ a w) {j g : Nat} (hj : σ j = g) : SR E ⟨mapF (substD 6 j g) s.F, mapH (substL j g) s.H, s.nx, s.G⟩ σ τ a w := by
  have hget : ∀ id, lget (mapH (substL j g) s.H) id = (lget s.H id).map (substL j g) := fun id => lget_map _ _ _
  have ho : ∀ id k, owned (mapH (substL j g) s.H) σ τ id k ↔ owned s.H σ τ id k := fun id k => by
    unfold owned
    rw [hget]
    cases hq : lget s.H id with
    | none => exact Iff.rfl
    | some x =>
      cases x with
      | cells el l =>
        constructor
        · rintro (⟨el', l', h1, h2⟩ | ⟨_, _, _, _, _, h1, _⟩ | ⟨_, h1, _⟩)
          · exact .inl ⟨_, _, rfl, h2⟩
          · cases h1
          · cases h1
        · rintro (⟨el', l', h1, h2⟩ | ⟨_, _, _, _, _, h1, _⟩ | ⟨_, h1, _⟩)
          · exact .inl ⟨_, _, rfl, h2⟩
          · cases h1
          · cases h1
      | grow α el e enc L => exact Iff.rfl
      | obj o => exact Iff.rfl
      | dead => exact Iff.rfl
  have hc : ctxOf E (mapH (substL j g) s.H) s.nx σ τ w = ctxOf E s.H s.nx σ τ w := by
    unfold ctxOf; simp only [ho]
  have hC : ∀ off v, (ctxOf E s.H s.nx σ τ w).loc j off v → v = .pointer (some ⟨g, off, none⟩) := fun off v h => by rw [← hj]; exact h.2
  have hh := hs.heap
  refine ⟨⟨hh.kept, hh.few, fun id el l h => ?_, fun id α el e enc L h => ?_, fun x y k h1 h2 => hh.apart x y k ((ho _ _).1 h1) ((ho _ _).1 h2), fun id o h => ?_, hh.slices, fun id o h => ?_⟩, hs.defers, hs.size, fun i d h => ?_, fun G d v hx => ?_, hs.room⟩
  · have h : lget (mapH (substL j g) s.H) id = _ := h
    rw [hget] at h
    cases hq : lget s.H id with
    | none => rw [hq] at h; cases h
    | some x =>
      rw [hq] at h
      simp only [Option.map_some, Option.some.injEq] at h
      cases x with
      | cells el0 l0 =>
        unfold substL at h
        injection h with h1 h2
        subst h1 h2
        obtain ⟨q1, c, q2, q3, q4⟩ := hh.cells id el0 l0 hq
        refine ⟨q1, c, q2, by rw [List.length_map]; exact q3, fun q d u hd hu => ?_⟩
        rw [List.getElem?_map] at hd
        cases hq2 : l0[q]? with
        | none => rw [hq2] at hd; cases hd
        | some y =>
          rw [hq2] at hd
          simp only [Option.map_some, Option.some.injEq] at hd
          subst hd
          show Rep (ctxOf E (mapH (substL j g) s.H) s.nx σ τ w) _ _
          rw [hc]
          exact subst_rep hC 6 y u (q4 q y u hq2 hu)
      | grow α el e enc L => cases h
      | obj o => cases h
      | dead => cases h
  · have h : lget (mapH (substL j g) s.H) id = _ := h
    rw [hget] at h
    have hq : lget s.H id = some (.grow α el e enc L) := by
      cases hq : lget s.H id with
      | none => rw [hq] at h; cases h
      | some x =>
        rw [hq] at h
        simp only [Option.map_some, Option.some.injEq] at h
        cases x with
        | cells el0 l0 => cases h
        | grow => exact congrArg some h
        | obj o => cases h
        | dead => cases h
    have := hh.grow id α el e enc L hq
    show _ ∧ ∃ xs, _ ∧ _ ∧ ∀ (i : Nat) x (j' : Nat) d u, _ → _ → _ → Rep (ctxOf E (mapH (substL j g) s.H) s.nx σ τ w).still d u
    rw [hc]
    exact this
  · have h : lget (mapH (substL j g) s.H) id = _ := h
    rw [hget] at h
    cases hq : lget s.H id with
    | none => rw [hq] at h; cases h
    | some x => exact hh.below id x hq
  · have h : lget (mapH (substL j g) s.H) id = _ := h
    rw [hget] at h
    have hq : lget s.H id = some (.obj o) := by
      cases hq : lget s.H id with
      | none => rw [hq] at h; cases h
      | some x =>
        rw [hq] at h
        simp only [Option.map_some, Option.some.injEq] at h
        cases x with
        | cells el0 l0 => cases h
        | grow => cases h
        | obj o2 => exact congrArg some h
        | dead => cases h
    have := hh.obj id o hq
    show _ ∧ o.at (ctxOf E (mapH (substL j g) s.H) s.nx σ τ w).still (σ id)
    rw [hc]
    exact this
  · have h : lget (mapF (substD 6 j g) s.F) i = some d := h
    rw [show lget (mapF (substD 6 j g) s.F) i = (lget s.F i).map (substD 6 j g) from lget_map _ _ _] at h
    show Rep (ctxOf E (mapH (substL j g) s.H) s.nx σ τ w) _ _
    rw [hc]
    cases hq : lget s.F i with
    | none => rw [hq] at h; cases h
    | some x =>
      rw [hq] at h
      simp only [Option.map_some, Option.some.injEq] at h
      subst h
      exact subst_rep hC 6 x _ (hs.slots i x hq)
  · have := hs.ghost G d v hx
    show _ ∧ _ ∧ Rep ((ctxOf E (mapH (substL j g) s.H) s.nx σ τ w).only G) d v
    rw [hc]
    exact this

theorem absorb_state (hs : SR E s σ τ a w) {i j : Nat} {S : Nat → Prop} {M : Ar} {el : TypeId} {l : List D} (hid : lget s.H i = some (arL S M)) (hj : lget s.H j = some (.cells el l)) (hcut : l.all (cutOk 6 0) = true) :
    ∃ (g : Nat) (S' : Nat → Prop), M g = none ∧ σ j = g ∧ SR E ⟨mapF (substD 6 j g) s.F, mapH (substL j g) ((i, arL S' (M.upd g (some (.cells el l)))) :: (j, .dead) :: s.H), s.nx, s.G⟩ σ τ a w := by
  have hne : j ≠ i := by rintro rfl; rw [hid] at hj; cases hj
  obtain ⟨h1, c, h2, h3, h4⟩ := hs.heap.cells j el l hj
  have hown : owned s.H σ τ j (σ j) := .inl ⟨_, _, hj, rfl⟩
  have hSM := (hs.heap.obj i _ hid).2.1
  have hM : M (σ j) = none := by
    cases hq : M (σ j) with
    | none => rfl
    | some x => exact absurd (hs.heap.apart j i (σ j) hown ((owned_ar hid).2 ((hSM _).2 ⟨x, hq⟩))) hne
  obtain ⟨r1, r2⟩ := ar_state hs hid (w' := w) rfl rfl rfl (Nat.le_refl _) (Nat.le_refl _) (H' := (i, arL (fun k => S k ∨ k = σ j) (M.upd (σ j) (some (.cells el l)))) :: (j, .dead) :: s.H) (lget_same _ _ _)
    (fun id hn => by
      by_cases h : id = j
      · subst h; exact .inr ⟨by rw [lget_ne _ _ hn, lget_same], hs.heap.below _ _ hj⟩
      · exact .inl (by rw [lget_ne _ _ hn, lget_ne _ _ h]))
    (fun _ _ _ => rfl)
    (fun k hk => by
      rcases hk with hk | rfl
      · exact ⟨((hs.heap.obj i _ hid).1 k hk).2, .inl hk⟩
      · exact ⟨(Array.getElem?_eq_some_iff.1 h2).1, .inr (.inr ⟨j, by rw [lget_ne _ _ hne, lget_same], hown⟩)⟩)
    (fun hle => by
      refine ⟨fun k => ?_, fun k x hk => ?_⟩
      · by_cases hkg : k = σ j
        · subst hkg; rw [Ar.upd_same]; exact ⟨fun _ => ⟨_, rfl⟩, fun _ => .inr rfl⟩
        · rw [Ar.upd_ne _ _ hkg]
          exact ⟨fun h => (hSM k).1 (h.resolve_right hkg), fun h => .inl ((hSM k).2 h)⟩
      · by_cases hkg : k = σ j
        · subst hkg
          rw [Ar.upd_same] at hk
          injection hk with hk; subst hk
          exact ⟨c, h2, by rw [Array.length_toList, h3], fun q d u hd hu => (cut_still (all_at hcut hd) (h4 q d u hd (by rw [← Array.getElem?_toList]; exact hu))).mono hle.still⟩
        · rw [Ar.upd_ne _ _ hkg] at hk
          exact It.at_le (ar_at hs hid hk) (fun _ h => h) hle.still)
  exact ⟨σ j, _, hM, rfl, subst_state r1 rfl⟩
end
end Go.Proofs.Ytfepckbhnghpeaa.V
namespace Go.Proofs.Ytfepckbhnghpeaa.V
open Go.RowKit

structure TurnedA (M : Ar) (w w' : World) : Prop where
  os : w'.os = w.os
  tape : w'.tape = w.tape
  output : w'.output = w.output
  size : w.heap.size ≤ w'.heap.size
  block : ∀ k, k < w.heap.size → M k = none → w'.heap[k]? = w.heap[k]?
  drawn : w.drawn ≤ w'.drawn
def newA (B : Nat → Prop) (M M' : Ar) (w w' : World) : Nat → Prop := fun k => (B k ∨ (∃ y, M k = some y) ∨ w.heap.size ≤ k) ∧ M' k = none ∧ k < w'.heap.size

def ArC (P : Program) (f : FuncId) (args : List D) (M : Ar) (Q : D → Ar → Prop) : Prop :=
  hasBody P f ∧ ∀ (w : World) (B : Nat → Prop) (args' : List Value), (∀ k, B k → k < w.heap.size ∧ M k = none) → (∀ k x, M k = some x → x.at (baseCtx w B) k) → reps (baseCtx w B) args args' →
    Calls P f args'.toArray w fun e w' => ∃ d v M', Q d M' ∧ e = .returned v ∧ TurnedA M w w' ∧ (∀ k x, M' k = some x → ((∃ y, M k = some y) ∨ w.heap.size ≤ k) ∧ x.at (baseCtx w' (newA B M M' w w')) k) ∧ Rep (baseCtx w' (newA B M M' w w')) d v
theorem ArC.mono {P : Program} {f : FuncId} {args : List D} {M : Ar} {Q Q' : D → Ar → Prop} (h : ArC P f args M Q) (hq : ∀ d M', Q d M' → Q' d M') : ArC P f args M Q' :=
  ⟨h.1, fun w B args' h1 h2 h3 => (h.2 w B args' h1 h2 h3).mono fun _ _ ⟨d, v, M', h4, h5⟩ => ⟨d, v, M', hq d M' h4, h5⟩⟩

section
variable {P : Program} {tt : TT} {pl : Plans} {E : Env} {s : St} {σ : Nat → Nat} {τ : Nat → Value} {a : Act} {w : World} {K : D → St → Prop} {f : FuncId} {args : List D}

def It.exact : It → Prop
  | .cells _ l => ∀ d, d ∈ l → ∃ v, d = .v v
  | .ob _ => True
theorem It.same {x : It} (he : x.exact) {C C' : Ctx} {k : Nat} (h : x.at C k) (h' : x.at C' k) : C'.w.heap[k]? = C.w.heap[k]? := by
  cases x with
  | ob o => exact h'.trans h.symm
  | cells el l =>
    obtain ⟨c, h1, h2⟩ := h
    obtain ⟨c', h3, h4⟩ := h'
    have : c'.toList = c.toList := by
      apply List.ext_getElem?
      intro j
      cases hq : l[j]? with
      | none =>
        have hl := List.getElem?_eq_none_iff.1 hq
        rw [List.getElem?_eq_none (by rw [h4.1]; exact hl), List.getElem?_eq_none (by rw [h2.1]; exact hl)]
      | some d =>
        have hl := (List.getElem?_eq_some_iff.1 hq).1
        obtain ⟨v, rfl⟩ := he d (List.mem_of_getElem? hq)
        obtain ⟨u, e1⟩ : ∃ u, c.toList[j]? = some u := ⟨_, List.getElem?_eq_getElem (show j < c.toList.length by rw [h2.1]; exact hl)⟩
        obtain ⟨u', e2⟩ : ∃ u, c'.toList[j]? = some u := ⟨_, List.getElem?_eq_getElem (show j < c'.toList.length by rw [h4.1]; exact hl)⟩
        rw [e1, e2, rep_v (h2.2 j _ _ hq e1), rep_v (h4.2 j _ _ hq e2)]
    rw [h1, h3, Array.ext' this]
theorem CallVC.arG {g : Bool} {i : Nat} {S : Nat → Prop} {M : Ar} {Q : D → Ar → Prop} (hf : ArC P f args M Q) (hid : lget s.H i = some (arL S M)) (hcut : args.all (cutOk 6 0) = true) (hg : g = true → (∀ d M', Q d M' → M' = M) ∧ ∀ k x, M k = some x → x.exact)
    (h : ∀ d M' S', Q d M' → K d ⟨s.F, (i, arL S' M') :: s.H, s.nx, s.G⟩) : CallVC P g f args s K := by
  refine ⟨hf.1, fun E σ τ a w args' hs hr => ?_⟩
  have hSM := (hs.heap.obj i _ hid).2.1
  have hr' : reps (baseCtx w (ctxOf E s.H s.nx σ τ w).ok) args args' := ⟨hr.1, fun j d u hd hu => cut_still (all_at hcut hd) (hr.2 j d u hd hu)⟩
  refine (hf.2 w _ args' (fun k hk => ⟨hk.2.1, ?_⟩) (fun k x hx => ar_at hs hid hx) hr').mono fun e w' hh => ?_
  · cases hq : M k with
    | none => rfl
    | some x => exact absurd ((owned_ar hid).2 ((hSM k).2 ⟨x, hq⟩)) (hk.2.2 i)
  obtain ⟨d, v, M', hq, rfl, ht, hM', hd⟩ := hh
  have hnone : ∀ k, ¬ S k → M k = none := fun k hk => by
    cases hq : M k with
    | none => rfl
    | some x => exact absurd ((hSM k).2 ⟨x, hq⟩) hk
  have hH : ∀ id, id ≠ i → lget ((i, arL (fun k => ∃ x, M' k = some x) M') :: s.H) id = lget s.H id := fun id hne => lget_ne _ _ hne
  have hle : (baseCtx w' (newA (ctxOf E s.H s.nx σ τ w).ok M M' w w')).Le (ctxOf E ((i, arL (fun k => ∃ x, M' k = some x) M') :: s.H) s.nx σ τ w') := by
    refine ⟨fun _ _ _ h => h, fun k hk => ?_, fun _ _ _ h => h.elim, fun _ _ h => h.elim, fun _ _ _ h => h.elim⟩
    obtain ⟨h1, h2, h3⟩ := hk
    have hi : ¬ owned ((i, arL (fun k => ∃ x, M' k = some x) M') :: s.H) σ τ i k := fun ho => by
      obtain ⟨x, hx⟩ := (owned_ar (lget_same _ _ _)).1 ho
      rw [h2] at hx; cases hx
    rcases h1 with h1 | h1 | h1
    · refine ⟨h1.1, h3, fun id ho => ?_⟩
      by_cases hne : id = i
      · subst hne; exact hi ho
      · exact h1.2.2 id (owned_of (hH id hne) ho)
    · have hSk := (hSM k).2 h1
      refine ⟨.inr ((hs.heap.obj i _ hid).1 k hSk).1, h3, fun id ho => ?_⟩
      by_cases hne : id = i
      · subst hne; exact hi ho
      · exact hne (hs.heap.apart id i k (owned_of (hH id hne) ho) ((owned_ar hid).2 hSk))
    · refine ⟨.inr (.inr (Nat.le_trans hs.heap.kept.size h1)), h3, fun id ho => ?_⟩
      by_cases hne : id = i
      · subst hne; exact hi ho
      · have := owned_lt hs.heap (owned_of (hH id hne) ho); omega
  obtain ⟨r1, r2⟩ := ar_state hs hid ht.os ht.tape ht.output ht.size ht.drawn (H' := (i, arL (fun k => ∃ x, M' k = some x) M') :: s.H) (lget_same _ _ _) (fun id hne => .inl (hH id hne)) (fun k hk hS => ht.block k hk (hnone k hS))
    (fun k hk => by
      obtain ⟨x, hx⟩ := hk
      obtain ⟨h1, h2⟩ := hM' k x hx
      refine ⟨It.lt h2, ?_⟩
      rcases h1 with h1 | h1
      · exact .inl ((hSM k).2 h1)
      · exact .inr (.inl h1))
    (fun _ => ⟨fun _ => Iff.rfl, fun k x hx => It.at_le (hM' k x hx).2 (fun _ h => h) ⟨fun _ _ _ h => h, hle.ok, fun _ _ _ h => h.elim, fun _ _ h => h.elim, fun _ _ _ h => h.elim⟩⟩)
  refine ⟨d, ⟨s.F, (i, arL (fun k => ∃ x, M' k = some x) M') :: s.H, s.nx, s.G⟩, σ, τ, v, h d M' _ hq, rfl, r1, hd.mono hle, fun hgt => ⟨ht.os, ht.tape, ht.output, ht.size, fun k hk => ?_⟩⟩
  obtain ⟨e1, e2⟩ := hg hgt
  have hMM := e1 d M' hq
  subst hMM
  cases hq2 : M' k with
  | none => exact ht.block k hk hq2
  | some x => exact It.same (e2 k x hq2) (ar_at hs hid hq2) (hM' k x hq2).2
theorem CallVC.ar {i : Nat} {S : Nat → Prop} {M : Ar} {Q : D → Ar → Prop} (hf : ArC P f args M Q) (hid : lget s.H i = some (arL S M)) (hcut : args.all (cutOk 6 0) = true)
    (h : ∀ d M' S', Q d M' → K d ⟨s.F, (i, arL S' M') :: s.H, s.nx, s.G⟩) : CallVC P false f args s K := CallVC.arG hf hid hcut (fun h => by cases h) h

theorem freeze_state (hs : SR E s σ τ a w) {r : Nat} {α : Type} {el e : Nat} {enc : α → List D} {L : List α} (hr : lget s.H r = some (.grow α el e enc L)) :
    SR E ⟨s.F, (r, .dead) :: s.H, s.nx, s.G⟩ σ τ a w ∧ Rep (ctxOf E ((r, .dead) :: s.H) s.nx σ τ w) (.rows α e enc L) (τ r) := by
  have hle : (ctxOf E s.H s.nx σ τ w).Le (ctxOf E ((r, .dead) :: s.H) s.nx σ τ w) :=
    ⟨fun k o hk ho => ho, fun k hk => ⟨hk.1, hk.2.1, fun j ho => by
      by_cases hj : j = r
      · subst hj; exact owned_none (lget_same _ _ _) ho
      · exact hk.2.2 j (owned_of (lget_ne _ _ hj) ho)⟩, fun _ _ _ h => h, fun _ _ h => h, fun _ _ _ h => h⟩
  have hgone : ∀ j k, owned ((r, .dead) :: s.H) σ τ j k → j ≠ r ∧ owned s.H σ τ j k := fun j k ho => by
    by_cases hj : j = r
    · subst hj; exact (owned_none (lget_same _ _ _) ho).elim
    · exact ⟨hj, owned_of (lget_ne _ _ hj) ho⟩
  refine ⟨⟨⟨hs.heap.kept, hs.heap.few, fun j el l h => ?_, fun j α el e enc L h => ?_, fun i j k h1 h2 => hs.heap.apart i j k (hgone i k h1).2 (hgone j k h2).2, fun j o h => ?_, hs.heap.slices, fun j o h => ?_⟩, hs.defers, hs.size, fun i d h => (hs.slots i d h).mono hle, hs.ghost_le (s' := ⟨s.F, (r, .dead) :: s.H, s.nx, s.G⟩) rfl hle, hs.room⟩, ?_⟩
  · have hj : j ≠ r := by rintro rfl; rw [lget_same] at h; cases h
    rw [lget_ne _ _ hj] at h
    obtain ⟨h1, c, h2, h3, h4⟩ := hs.heap.cells j el l h
    exact ⟨h1, c, h2, h3, fun q d u hd hu => (h4 q d u hd hu).mono hle⟩
  · have hj : j ≠ r := by rintro rfl; rw [lget_same] at h; cases h
    rw [lget_ne _ _ hj] at h
    obtain ⟨h1, xs, h2, h3, h4⟩ := hs.heap.grow j α el e enc L h
    exact ⟨h1, xs, h2, h3, fun q x y d u hx hd hu => (h4 q x y d u hx hd hu).mono hle.still⟩
  · by_cases hj : j = r
    · subst hj; exact hs.heap.below j _ hr
    · rw [lget_ne _ _ hj] at h; exact hs.heap.below j o h
  · have hj : j ≠ r := by rintro rfl; rw [lget_same] at h; cases h
    rw [lget_ne _ _ hj] at h
    obtain ⟨h1, h2⟩ := hs.heap.obj j o h
    exact ⟨h1, OA.at_le h2 (fun k hk => rfl) hle.still⟩
  · obtain ⟨h1, xs, ⟨hxl, hown⟩, hlen, hrep⟩ := hs.heap.grow r α el e enc L hr
    rcases hown with ⟨hv, hn⟩ | ⟨g, cap, cur, hv, _, hg, hcap, hmax, hcs, htk⟩
    · have : L = [] := List.eq_nil_of_length_eq_zero hn
      subst this
      rw [hv]
      exact DLe.nil e enc _ _ .v
    · rw [hv]
      have hgl : g < w.heap.size := (Array.getElem?_eq_some_iff.1 hg).1
      have hbound : ∀ (i j : Nat), i < L.length → j < e → i * e + j < L.length * e := fun i j hi hj => by
        have := Nat.mul_le_mul_right e (show i + 1 ≤ L.length from hi)
        rw [Nat.succ_mul] at this
        omega
      have hcl : L.length * e ≤ cur.size := by rw [hcs]; exact Nat.mul_le_mul_right e hcap
      have hxj : ∀ (j : Nat), j < L.length * e → xs[j]? = cur[j]? := fun j hj => by
        have h7 : cur.toList[j]? = xs[j]? := by rw [← htk, List.getElem?_take, if_pos hj]
        rw [← h7, Array.getElem?_toList]
      have hmine : owned s.H σ τ r g := .inr (.inl ⟨_, _, _, _, _, hr, by rw [hv]; rfl⟩)
      refine Rep.rows (α := α) (e := e) (enc := enc) (L := L) g 0 (fun i j => (cur[i * e + j]?).getD undef) hcap (fun _ => ⟨rfl, .inr (h1 g (by rw [hv]; rfl)), hgl, fun j ho => ?_⟩) hlen (fun i x j d hx hd => ?_) (fun i x j d hx hd => ?_)
      · obtain ⟨q1, q2⟩ := hgone j g ho
        exact q1 (hs.heap.apart j r g q2 hmine)
      all_goals
        have hi : i < L.length := (List.getElem?_eq_some_iff.1 hx).1
        have hj : j < e := by have := (List.getElem?_eq_some_iff.1 hd).1; rw [hlen i x hx] at this; exact this
        have hb := hbound i j hi hj
        obtain ⟨u, hcj⟩ : ∃ u, cur[i * e + j]? = some u := ⟨_, Array.getElem?_eq_getElem (by omega)⟩
      · show w.cell? ⟨g, 0 + i * e + j, none⟩ = some ((cur[i * e + j]?).getD undef)
        rw [hcj, Nat.zero_add]
        unfold World.cell?
        simp [hg, hcj]
      · rw [hcj]
        exact (hrep i x j d u hx hd (by rw [hxj _ hb, hcj])).mono hle.still
end
end Go.Proofs.Ytfepckbhnghpeaa.V
namespace Go.Proofs.Ytfepckbhnghpeaa.V
open Go.RowKit

def rowD : Nat → Nat → D → D → D
  | 0, _, _, d => d
  | _ + 1, r, x, .grow id => match Nat.beq id r with
    | true => x
    | false => .grow id
  | k + 1, r, x, .agg l => .agg (l.map (rowD k r x))
  | k + 1, r, x, .tup l => .tup (l.map (rowD k r x))
  | _ + 1, _, _, d => d
theorem row_rep {C : Ctx} {r : Nat} {x : D} (hC : ∀ v, C.grow r v → Rep C x v) : ∀ (k : Nat) (d : D) (v : Value), Rep C d v → Rep C (rowD k r x d) v := by
  intro k
  induction k with
  | zero => intro d v h; exact h
  | succ k ih =>
    have many : ∀ {l : List D} {c : Array Value}, (∀ (i : Nat) d u, l[i]? = some d → c[i]? = some u → Rep C d u) → ∀ (i : Nat) d u, (l.map (rowD k r x))[i]? = some d → c[i]? = some u → Rep C d u := fun {l c} h i d u hd hu => by
      rw [List.getElem?_map] at hd
      cases hq : l[i]? with
      | none => rw [hq] at hd; cases hd
      | some y =>
        rw [hq] at hd
        simp only [Option.map_some, Option.some.injEq] at hd
        subst hd
        exact ih y u (h i y u hq hu)
    intro d v hr
    cases hr with
    | grow hh =>
      rename_i id
      unfold rowD
      split
      · rename_i hb
        have := Nat.eq_of_beq_eq_true hb
        subst this
        exact hC _ hh
      · exact .grow hh
    | agg hs hh => exact .agg (by rw [List.length_map]; exact hs) (many hh)
    | tup hs hh => exact .tup (by rw [List.length_map]; exact hs) (many hh)
    | fn hs ht hh hh' => exact .fn hs ht hh hh'
    | iface hh => exact .iface hh
    | v => exact .v
    | rows b o g hc hp hl hcell hrep => exact .rows b o g hc hp hl hcell hrep
    | lit b o g hc hp hl hcell hrep => exact .lit b o g hc hp hl hcell hrep
    | emp => exact .emp
    | fp g hk hcell hrep => exact .fp g hk hcell hrep
    | loc hh => exact .loc hh
    | op hh => exact .op hh
    | win hh hc => exact .win hh hc
    | cut hh hn => exact .cut hh hn
    | cap hh hn => exact .cap hh hn
    | asl hh => exact .asl hh
    | mapr hh => exact .mapr hh
    | sp S hA hS => exact .sp S hA hS
    | junk => exact .junk

inductive AEnd (i : Nat) (Q : D → Ar → Prop) : St → D → Prop
  | done {s : St} {d : D} (S : Nat → Prop) (M : Ar) (h0 : lget s.H i = some (arL S M)) (hd : cutOk 6 0 d = true) (hq : Q d M) : AEnd i Q s d
  | abs {s : St} {d : D} (j : Nat) (S : Nat → Prop) (M : Ar) (el : TypeId) (l : List D) (h0 : lget s.H i = some (arL S M)) (hj : lget s.H j = some (.cells el l)) (hcut : l.all (cutOk 6 0) = true)
      (h : ∀ g S', M g = none → AEnd i Q ⟨mapF (substD 6 j g) s.F, mapH (substL j g) ((i, arL S' (M.upd g (some (.cells el l)))) :: (j, .dead) :: s.H), s.nx, s.G⟩ (substD 6 j g d)) : AEnd i Q s d
  | frz {s : St} {d : D} (r : Nat) (α : Type) (el e : Nat) (enc : α → List D) (L : List α) (hr : lget s.H r = some (.grow α el e enc L))
      (h : AEnd i Q ⟨s.F, (r, .dead) :: s.H, s.nx, s.G⟩ (rowD 6 r (.rows α e enc L) d)) : AEnd i Q s d
  | drp {s : St} {d : D} (S : Nat → Prop) (M M' : Ar) (h0 : lget s.H i = some (arL S M)) (hsub : ∀ k x, M' k = some x → M k = some x) (h : ∀ S', AEnd i Q ⟨s.F, (i, arL S' M') :: s.H, s.nx, s.G⟩ d) : AEnd i Q s d
  | le {s : St} {d d' : D} (hd : DLe d d') (h : AEnd i Q s d') : AEnd i Q s d
  | thw {s : St} {d d' : D} (S : Nat → Prop) (M : Ar) (g : Nat) (x : It) (h0 : lget s.H i = some (arL S M)) (hM : M g = some x) (hd : ∀ (C : Ctx) (v : Value), C.ok g → x.at C.still g → Rep C d v → Rep C d' v) (h : ∀ S', AEnd i Q ⟨s.F, (i, arL S' (M.upd g none)) :: s.H, s.nx, s.G⟩ d') : AEnd i Q s d

section
variable {P : Program} {tt : TT} {pl : Plans} {E : Env} {s : St} {σ : Nat → Nat} {τ : Nat → Value} {a : Act} {w : World} {K : D → St → Prop} {f : FuncId} {args : List D}

theorem drop_state (hs : SR E s σ τ a w) {i : Nat} {S : Nat → Prop} {M M' : Ar} (hid : lget s.H i = some (arL S M)) (hsub : ∀ k x, M' k = some x → M k = some x) :
    SR E ⟨s.F, (i, arL (fun k => ∃ x, M' k = some x) M') :: s.H, s.nx, s.G⟩ σ τ a w ∧ (ctxOf E s.H s.nx σ τ w).Le (ctxOf E ((i, arL (fun k => ∃ x, M' k = some x) M') :: s.H) s.nx σ τ w) := by
  have hSM := (hs.heap.obj i _ hid).2.1
  have hS : ∀ k, (∃ x, M' k = some x) → S k := fun k ⟨x, hx⟩ => (hSM k).2 ⟨x, hsub k x hx⟩
  exact ar_state hs hid rfl rfl rfl (Nat.le_refl _) (Nat.le_refl _) (lget_same _ _ _) (fun id hne => .inl (lget_ne _ _ hne)) (fun _ _ _ => rfl) (fun k hk => ⟨((hs.heap.obj i _ hid).1 k (hS k hk)).2, .inl (hS k hk)⟩)
    (fun hle => ⟨fun _ => Iff.rfl, fun k x hx => It.at_le (ar_at hs hid (hsub k x hx)) (fun _ h => h) hle.still⟩)

theorem aend_sound {i : Nat} {Q : D → Ar → Prop} {d : D} (h : AEnd i Q s d) : ∀ {v : Value}, SR E s σ τ a w → Rep (ctxOf E s.H s.nx σ τ w) d v →
    ∃ (s' : St) (d' : D) (S : Nat → Prop) (M : Ar), SR E s' σ τ a w ∧ lget s'.H i = some (arL S M) ∧ Rep (ctxOf E s'.H s'.nx σ τ w) d' v ∧ cutOk 6 0 d' = true ∧ Q d' M := by
  induction h with
  | done S M h0 hd hq => exact fun hs hv => ⟨_, _, S, M, hs, h0, hv, hd, hq⟩
  | abs j S M el l h0 hj hcut h ih =>
    intro v hs hv
    rename_i s d
    obtain ⟨g, S', h1, h2, h3⟩ := absorb_state hs h0 hj hcut
    refine ih g S' h1 h3 ?_
    have hne : j ≠ i := by rintro rfl; rw [h0] at hj; cases hj
    have hle : ∀ id, id ≠ i → lget (mapH (substL j g) ((i, arL S' (M.upd g (some (.cells el l)))) :: (j, .dead) :: s.H)) id = some .dead ∨ lget (mapH (substL j g) ((i, arL S' (M.upd g (some (.cells el l)))) :: (j, .dead) :: s.H)) id = (lget s.H id).map (substL j g) := fun id hn => by
      rw [show lget (mapH (substL j g) ((i, arL S' (M.upd g (some (.cells el l)))) :: (j, .dead) :: s.H)) id = (lget ((i, arL S' (M.upd g (some (.cells el l)))) :: (j, .dead) :: s.H) id).map (substL j g) from lget_map _ _ _, lget_ne _ _ hn]
      by_cases hj2 : id = j
      · subst hj2; rw [lget_same]; exact .inl rfl
      · rw [lget_ne _ _ hj2]; exact .inr rfl
    have hown : ∀ id k, owned (mapH (substL j g) ((i, arL S' (M.upd g (some (.cells el l)))) :: (j, .dead) :: s.H)) σ τ id k → ∃ id', owned s.H σ τ id' k := by
      intro id k ho
      by_cases hid : id = i
      · subst hid
        have hSM' : S' k := (owned_ar (S := S') (M := M.upd g (some (.cells el l))) (by rw [show lget (mapH (substL j g) ((id, arL S' (M.upd g (some (.cells el l)))) :: (j, .dead) :: s.H)) id = (lget ((id, arL S' (M.upd g (some (.cells el l)))) :: (j, .dead) :: s.H) id).map (substL j g) from lget_map _ _ _, lget_same]; rfl)).1 ho
        have hob := (h3.heap.obj id (.sep S' (arA (M.upd g (some (.cells el l))))) (by
          show lget (mapH (substL j g) _) id = _
          rw [show lget (mapH (substL j g) ((id, arL S' (M.upd g (some (.cells el l)))) :: (j, .dead) :: s.H)) id = (lget ((id, arL S' (M.upd g (some (.cells el l)))) :: (j, .dead) :: s.H) id).map (substL j g) from lget_map _ _ _, lget_same]; rfl)).2.1
        obtain ⟨x, hx⟩ := (hob k).1 hSM'
        by_cases hkg : k = g
        · exact ⟨j, .inl ⟨_, _, hj, by rw [hkg, h2]⟩⟩
        · rw [Ar.upd_ne _ _ hkg] at hx
          exact ⟨id, (owned_ar h0).2 (((hs.heap.obj id _ h0).2.1 k).2 ⟨x, hx⟩)⟩
      · rcases hle id hid with h5 | h5
        · exact (owned_none h5 ho).elim
        · refine ⟨id, ?_⟩
          unfold owned at ho ⊢
          rw [h5] at ho
          cases hq : lget s.H id with
          | none => rw [hq] at ho; rcases ho with ⟨_, _, h6, _⟩ | ⟨_, _, _, _, _, h6, _⟩ | ⟨_, h6, _⟩ <;> cases h6
          | some x =>
            rw [hq] at ho
            cases x with
            | cells el0 l0 =>
              rcases ho with ⟨_, _, _, h7⟩ | ⟨_, _, _, _, _, h6, _⟩ | ⟨_, h6, _⟩
              · exact .inl ⟨_, _, rfl, h7⟩
              · cases h6
              · cases h6
            | grow => exact ho
            | obj => exact ho
            | dead => exact ho
    have hmono : (ctxOf E s.H s.nx σ τ w).Le (ctxOf E (mapH (substL j g) ((i, arL S' (M.upd g (some (.cells el l)))) :: (j, .dead) :: s.H)) s.nx σ τ w) :=
      ⟨fun _ _ _ h => h, fun k hk => ⟨hk.1, hk.2.1, fun id ho => by obtain ⟨id', h6⟩ := hown id k ho; exact hk.2.2 id' h6⟩, fun _ _ _ h => h, fun _ _ h => h, fun _ _ _ h => h⟩
    exact subst_rep (fun off v hh => by rw [← h2]; exact hh.2) 6 _ _ (hv.mono hmono)
  | frz r α el e enc L hr h ih =>
    intro v hs hv
    rename_i s d
    obtain ⟨h1, h2⟩ := freeze_state hs hr
    refine ih h1 ?_
    have hmono : (ctxOf E s.H s.nx σ τ w).Le (ctxOf E ((r, .dead) :: s.H) s.nx σ τ w) :=
      ⟨fun _ _ _ h => h, fun k hk => ⟨hk.1, hk.2.1, fun j ho => by
        by_cases hj : j = r
        · subst hj; exact owned_none (lget_same _ _ _) ho
        · exact hk.2.2 j (owned_of (lget_ne _ _ hj) ho)⟩, fun _ _ _ h => h, fun _ _ h => h, fun _ _ _ h => h⟩
    exact row_rep (fun u hh => by rw [hh.2]; exact h2) 6 _ _ (hv.mono hmono)
  | drp S M M' h0 hsub h ih =>
    intro v hs hv
    obtain ⟨h1, h2⟩ := drop_state hs h0 hsub
    exact ih _ h1 (hv.mono h2)
  | le hd h ih =>
    intro v hs hv
    exact ih hs (hd _ _ hv)
  | thw S M g x h0 hM hd h ih =>
    intro v hs hv
    rename_i s d d'
    have hsub : ∀ k y, (M.upd g none) k = some y → M k = some y := fun k y hy => by
      by_cases hk : k = g
      · subst hk; rw [Ar.upd_same] at hy; cases hy
      · rw [Ar.upd_ne _ _ hk] at hy; exact hy
    obtain ⟨h1, h2⟩ := drop_state hs h0 hsub
    obtain ⟨hSb, hSM, _⟩ := hs.heap.obj i _ h0
    have hat := ar_at hs h0 hM
    have hSg := (hSM g).2 ⟨_, hM⟩
    refine ih _ h1 (hd _ v ⟨.inr (hSb g hSg).1, (hSb g hSg).2, fun id ho => ?_⟩ (It.at_le hat (fun _ h => h) h2.still) (hv.mono h2))
    by_cases hid : id = i
    · subst hid
      obtain ⟨y, hy⟩ := (owned_ar (lget_same _ _ _)).1 ho
      rw [Ar.upd_same] at hy; cases hy
    · exact hid (hs.heap.apart id i g (owned_of (lget_ne _ _ hid) ho) ((owned_ar h0).2 hSg))

def arEnv (w : World) (B : Nat → Prop) (M : Ar) (n : Nat) : Env := ⟨w, B, fun k => ∃ y, M k = some y, n, fun _ _ _ => False⟩

theorem arC_of_wpc (htt : ttOk P tt) (hb : entersAll P = true) (hm : P.follows .mixedOrders = true) {fn : Func} {c : Code} {M : Ar} {Q : D → Ar → Prop} (hfn : P.funcs[f]? = some fn) (hc : fn.body = some c) (hok : codeOk pl fn.ntmps c = true)
    (hn : args.length ≤ fn.ntmps) (h : ∀ S, wpc P tt pl c ⟨enumD args 0, [(0, arL S M)], 1, ([], 0)⟩ fun e s' => endK e (resK tt s' fn.results.toList fun l => AEnd 0 Q s' (oneD l))) : ArC P f args M Q := by
  refine ⟨⟨fn, hfn, by rw [hc]; rfl⟩, fun w B args' hB hM hr => ?_⟩
  have hr0 := hr
  let S : Nat → Prop := fun k => ∃ y, M k = some y
  have hown : ∀ id k, owned [(0, arL S M)] (fun _ => 0) (fun _ => .slice none 0 0) id k → id = 0 ∧ S k := by
    intro id k ho
    by_cases hi : id = 0
    · subst hi; exact ⟨rfl, (owned_ar (lget_same _ _ _)).1 ho⟩
    · rcases ho with ⟨_, _, h1, _⟩ | ⟨_, _, _, _, _, h1, _⟩ | ⟨_, h1, _⟩ <;> (rw [lget_ne _ _ hi] at h1; cases h1)
  have hle : (baseCtx w B).Le (ctxOf (arEnv w B M fn.ntmps) [(0, arL S M)] 1 (fun _ => 0) (fun _ => .slice none 0 0) w) :=
    ⟨fun _ _ _ h => h, (fun b hb => ⟨.inl hb, (hB b hb).1, fun id ho => by
      obtain ⟨_, y, hy⟩ := hown id b ho
      rw [(hB b hb).2] at hy; cases hy⟩), fun _ _ _ h => h.elim, fun _ _ h => h.elim, fun _ _ _ h => h.elim⟩
  have hlen : args'.length ≤ fn.ntmps := by rw [hr.1]; exact hn
  have hs : SR (arEnv w B M fn.ntmps) ⟨enumD args 0, [(0, arL S M)], 1, ([], 0)⟩ (fun _ => 0) (fun _ => .slice none 0 0) { tmps := args'.toArray ++ Array.replicate (fn.ntmps - args'.toArray.size) undef, defers := [] } w := by
    refine ⟨⟨⟨rfl, rfl, rfl, Nat.le_refl _, fun _ _ _ => rfl, Nat.le_refl _⟩, fun b hb => ⟨fun hk => ?_, (hB b hb).1⟩, fun id el l h => ?_, fun id α el e enc L h => ?_, fun i j k h1 h2 => ?_, fun id o h => ?_, fun _ => ⟨_, _, _, rfl⟩, fun id o h => ?_⟩,
      rfl, by simp [arEnv]; omega, fun i d hd => (enter_slots hr0 fn.ntmps i d hd).mono hle, fun _ _ _ h => h.elim, Nat.zero_le _⟩
    · obtain ⟨y, hy⟩ := hk
      rw [(hB b hb).2] at hy; cases hy
    · by_cases hi : id = 0
      · subst hi; rw [lget_same] at h; cases h
      · rw [lget_ne _ _ hi] at h; cases h
    · by_cases hi : id = 0
      · subst hi; rw [lget_same] at h; cases h
      · rw [lget_ne _ _ hi] at h; cases h
    · rw [(hown i k h1).1, (hown j k h2).1]
    · by_cases hi : id = 0
      · subst hi; exact Nat.zero_lt_one
      · rw [lget_ne _ _ hi] at h; cases h
    · by_cases hi : id = 0
      · subst hi
        rw [lget_same] at h
        injection h with h; injection h with h; subst h
        refine ⟨fun k hk => ⟨.inl hk, ?_⟩, fun _ => Iff.rfl, fun k x hx => It.at_le (hM k x hx) (fun _ h => h) ⟨fun _ _ _ h => h, hle.ok, fun _ _ _ h => h, fun _ _ h => h, fun _ _ _ h => h⟩⟩
        obtain ⟨x, hx⟩ := hk
        exact It.lt (hM k x hx)
      · rw [lget_ne _ _ hi] at h; cases h
  refine calls_of_wp hfn hc (wp_mono (wpc_sound (E := arEnv w B M fn.ntmps) htt hb hm c hok _ _ _ _ _ w (h S) hs) fun e a1 w1 hh => ?_)
  obtain ⟨x, s1, σ1, τ1, rfl, h1, h2⟩ := hh
  have fin : resK tt s1 fn.results.toList (fun l => AEnd 0 Q s1 (oneD l)) → a1.defers = [] ∧ ∃ v, (results fn a1.tmps).run P w1 = .ok v w1 ∧ ∃ d u M', Q d M' ∧ Ending.returned v = .returned u ∧ TurnedA M w w1 ∧ (∀ k x, M' k = some x → ((∃ y, M k = some y) ∨ w.heap.size ≤ k) ∧ x.at (baseCtx w1 (newA B M M' w w1)) k) ∧ Rep (baseCtx w1 (newA B M M' w w1)) d u := by
    intro hres
    obtain ⟨l, vs, h3, h4, h5⟩ := resK_run htt h2 _ _ hres
    obtain ⟨s2, d, S2, M2, g1, g2, g3, g4, g5⟩ := aend_sound h3 h2 (oneD_rep h4)
    have hSM := (g1.heap.obj 0 _ g2).2.1
    have hok2 : ∀ k, (ctxOf (arEnv w B M fn.ntmps) s2.H s2.nx σ1 τ1 w1).ok k → newA B M M2 w w1 k := by
      intro k hk
      refine ⟨?_, ?_, hk.2.1⟩
      · rcases hk.1 with h6 | h6 | h6
        · exact .inl h6
        · exact .inr (.inl h6)
        · exact .inr (.inr h6)
      · cases hq : M2 k with
        | none => rfl
        | some y => exact absurd ((owned_ar g2).2 ((hSM k).2 ⟨y, hq⟩)) (hk.2.2 0)
    have hle2 : (ctxOf (arEnv w B M fn.ntmps) s2.H s2.nx σ1 τ1 w1).still.Le (baseCtx w1 (newA B M M2 w w1)) := ⟨fun _ _ _ h => h, hok2, fun _ _ _ h => h, fun _ _ h => h, fun _ _ _ h => h⟩
    refine ⟨h2.defers, _, results_at h5, d, _, M2, g5, rfl, ⟨h2.heap.kept.os, h2.heap.kept.tape, h2.heap.kept.output, h2.heap.kept.size, fun k hk hn => h2.heap.kept.block k hk (fun ⟨y, hy⟩ => by rw [hn] at hy; cases hy), h2.heap.kept.drawn⟩, fun k x hx => ⟨?_, It.at_le (ar_at g1 g2 hx) (fun _ h => h) hle2⟩, (cut_still g4 g3).mono hle2⟩
    rcases ((g1.heap.obj 0 _ g2).1 k ((hSM k).2 ⟨x, hx⟩)).1 with h6 | h6
    · exact .inl h6
    · exact .inr h6
  cases x with
  | normal => exact fin h1
  | ret => exact fin h1
  | exit i => exact h1.elim
end
end Go.Proofs.Ytfepckbhnghpeaa.V
namespace Go.Proofs.Ytfepckbhnghpeaa.V
open Go.RowKit
section
variable {P : Program} {tt : TT} {s : St}

theorem pv_nil {x : Operand} {ad : Addr} {K : D → Prop} (hx : evD s x = .v (.pointer (some ad))) (hk : K (.v (.pointer (some ad)))) : PureVC P s (.nilCheck x) K := by
  refine ⟨fun o' ho' E σ τ a w hs => ?_⟩
  have hv := evD_rep hs x
  rw [hx] at hv
  have hv := rep_v hv
  refine ⟨_, _, hk, .v, fun w' _ => ?_⟩
  simp [execOp, ho', hv]

theorem pv_field (htt : ttOk P tt) {x : Operand} {t : TypeId} {k o n g p : Nat} {ti : TI} {K : D → Prop} (hx : evD s x = .v (.pointer (some ⟨g, p, none⟩))) (hf : fieldOff tt t k = some (o, ti)) (hn : ti.size = n + 1) (hk : K (.v (.pointer (some ⟨g, p + o, none⟩)))) : PureVC P s (.fieldAddr t x k) K := by
  refine ⟨fun o' ho' E σ τ a w hs => ?_⟩
  have hv := evD_rep hs x
  rw [hx] at hv
  have hv := rep_v hv
  obtain ⟨fs, f, g1, g2, rfl, g4⟩ := fieldOff_spec htt hf
  obtain ⟨de, i, z, k1, k2, _, k4, k5, _⟩ := view_spec g4
  have hz : i.size ≠ 0 := by rw [k5, hn]; omega
  refine yields_of (s := Instr.fieldAt t (a.eval x) k) (by simp only [execOp, ho']) ⟨_, _, hk, .v, fun w' => ?_⟩
  rw [hv]
  exact fieldAt_run g1 g2 rfl k2 hz _ _ w'

theorem pv_isNil (htt : ttOk P tt) {x y : Operand} {op : BinOp} {t : TypeId} {a1 a2 a3 c'} {ad : Addr} {b : Bool} {K : D → Prop} (hx : evD s x = .v (.pointer (some ad))) (hy : evD s y = .v (.pointer none)) (ht : tfind tt t = some ⟨.ptr, a1, a2, a3⟩) (ho : (op = .eql ∧ b = false) ∨ (op = .neq ∧ b = true)) (hk : K (.v (.bool b))) : PureVC P s (.binOp op t x y c') K := by
  refine ⟨fun o' ho' E σ τ a w hs => ?_⟩
  have hv := evD_rep hs x
  rw [hx] at hv
  have hv := rep_v hv
  have hw := evD_rep hs y
  rw [hy] at hw
  have hw := rep_v hw
  have hq : ∀ w, (Op.equal t (.pointer (some ad)) (.pointer none)).run P w = .ok false w := ptr_eq (P := P) (some ad) htt ht rfl
  refine yields_of (s := do eqGuard op t x y (a.eval x) (a.eval y); binOp op t (a.eval x) (a.eval y)) (by simp only [execOp, ho']) ⟨_, _, hk, .v, fun w' => ?_⟩
  rw [hv, hw]
  rcases ho with ⟨rfl, rfl⟩ | ⟨rfl, rfl⟩
  · simp [eqGuard, binOp, hq]
  · simp [eqGuard, binOp, hq]
end
end Go.Proofs.Ytfepckbhnghpeaa.V
namespace Go.Proofs.Ytfepckbhnghpeaa.V
open Go.RowKit
section
variable {P : Program} {tt : TT} {s : St} {K : D → St → Prop} {f : FuncId} {args : List D}

theorem op_absorb {o : Oper} {i j : Nat} {S : Nat → Prop} {M : Ar} {el : TypeId} {l : List D} (hid : lget s.H i = some (arL S M)) (hj : lget s.H j = some (.cells el l)) (hcut : l.all (cutOk 6 0) = true)
    (h : ∀ g S', M g = none → OpVC P false o ⟨mapF (substD 6 j g) s.F, mapH (substL j g) ((i, arL S' (M.upd g (some (.cells el l)))) :: (j, .dead) :: s.H), s.nx, s.G⟩ K) : OpVC P false o s K := by
  intro E σ τ a w hs next Q hn
  obtain ⟨g, S', h1, h2, h3⟩ := absorb_state hs hid hj hcut
  exact h g S' h1 E σ τ a w h3 next Q hn
end
end Go.Proofs.Ytfepckbhnghpeaa.V
namespace Go.Proofs.Ytfepckbhnghpeaa.V
open Go.RowKit
abbrev arE : LO := arL (fun _ => False) (fun _ => none)
section
variable {P : Program} {tt : TT} {pl : Plans}

theorem fnE_of_wpc {H0 : List (Nat × LO)} {nx0 : Nat} (hE : ∀ id o, lget H0 id = some o → id < nx0 ∧ o = arE) (htt : ttOk P tt) (hb : entersAll P = true) (hm : P.follows .mixedOrders = true) {f : FuncId} {fn : Func} {c : Code} (hfn : P.funcs[f]? = some fn) (hc : fn.body = some c) (hok : codeOk pl fn.ntmps c = true) {args : List D} {Q : D → Prop}
    (hn : args.length ≤ fn.ntmps) (h : wpc P tt pl c ⟨enumD args 0, H0, nx0, ([], 0)⟩ fun e s => endK e (resK tt s fn.results.toList fun l => seeD (snapD 6 s.H (oneD l)) Q)) : Fn P f args Q := by
  refine ⟨⟨fn, hfn, by rw [hc]; rfl⟩, fun w B args' hB hr => ?_⟩
  have hr0 := hr
  let E : Env := ⟨w, B, fun _ => False, fn.ntmps, fun _ _ _ => False⟩
  have hno : ∀ id k, ¬ owned H0 (fun _ => 0) (fun _ => .slice none 0 0) id k := by
    rintro id k (⟨_, _, h, _⟩ | ⟨_, _, _, _, _, h, _⟩ | ⟨o, h, h9⟩)
    · have := (hE id _ h).2; cases this
    · have := (hE id _ h).2; cases this
    · have := (hE id _ h).2
      injection this with this; subst this
      exact h9
  have hle : (baseCtx w B).Le (ctxOf E H0 nx0 (fun _ => 0) (fun _ => .slice none 0 0) w) :=
    ⟨fun _ _ _ h => h, (fun b hb => ⟨.inl hb, hB b hb, fun id ho => hno id b ho⟩), fun _ _ _ h => h.elim, fun _ _ h => h.elim, fun _ _ _ h => h.elim⟩
  have hlen : args'.length ≤ fn.ntmps := by rw [hr.1]; exact hn
  have hs : SR E ⟨enumD args 0, H0, nx0, ([], 0)⟩ (fun _ => 0) (fun _ => .slice none 0 0) { tmps := args'.toArray ++ Array.replicate (fn.ntmps - args'.toArray.size) undef, defers := [] } w := by
    refine ⟨⟨⟨rfl, rfl, rfl, Nat.le_refl _, fun _ _ _ => rfl, Nat.le_refl _⟩, fun b hb => ⟨fun h => h, hB b hb⟩, fun id el l h => ?_, fun id α el e enc L h => ?_, fun i j k h1 h2 => absurd h1 (hno i k), fun id o h => (hE id o h).1, fun _ => ⟨_, _, _, rfl⟩, fun id o h => ?_⟩,
      rfl, by simp [E]; omega, fun i d hd => (enter_slots hr0 fn.ntmps i d hd).mono hle, fun _ _ _ h => h.elim, Nat.zero_le _⟩
    · have := (hE id _ h).2; cases this
    · have := (hE id _ h).2; cases this
    · have := (hE id _ h).2
      injection this with this; subst this
      exact ⟨fun k hk => hk.elim, fun k => ⟨fun hk => hk.elim, fun ⟨_, hx⟩ => by cases hx⟩, fun k x hx => by cases hx⟩
  refine calls_of_wp hfn hc (wp_mono (wpc_sound (E := E) htt hb hm c hok _ _ _ _ _ w h hs) fun e a1 w1 hh => ?_)
  obtain ⟨x, s1, σ1, τ1, rfl, h1, h2⟩ := hh
  have fin : resK tt s1 fn.results.toList (fun l => seeD (snapD 6 s1.H (oneD l)) Q) → a1.defers = [] ∧ ∃ v, (results fn a1.tmps).run P w1 = .ok v w1 ∧ ∃ d u, Q d ∧ Ending.returned v = .returned u ∧ Under w.heap.size w w1 ∧ Rep (baseCtx w1 fun b => B b ∨ (w.heap.size ≤ b ∧ b < w1.heap.size)) d u := by
    intro hres
    obtain ⟨l, vs, h3, h4, h5⟩ := resK_run htt h2 _ _ hres
    rw [seeD_eq] at h3
    have hbel : Under w.heap.size w w1 := ⟨⟨h2.heap.kept.os, h2.heap.kept.tape, h2.heap.kept.output, h2.heap.kept.size, fun k hk => h2.heap.kept.block k hk (fun h => h)⟩, h2.heap.kept.drawn⟩
    refine ⟨h2.defers, _, results_at h5, _, _, h3, rfl, hbel, (snap_rep h2.heap 6 _ _ (oneD_rep h4)).mono ⟨fun _ _ _ h => h, fun b hb => ?_, fun _ _ _ h => h, fun _ _ h => h, fun _ _ _ h => h⟩⟩
    obtain ⟨h6, h7⟩ := hb
    rcases h6 with (h6 | h6) | h6
    · exact .inl h6
    · exact h6.elim
    · exact .inr ⟨h6, h7⟩
  cases x with
  | normal => exact fin h1
  | ret => exact fin h1
  | exit i => exact h1.elim
end
end Go.Proofs.Ytfepckbhnghpeaa.V
namespace Go.Proofs.Ytfepckbhnghpeaa.V
open Go.RowKit

@[irreducible] def slV (row : Option (Nat × Nat)) (n : Nat) : Value := match row with
  | none => .slice none 0 0
  | some x => .slice (some ⟨x.1, 0, none⟩) n (n + x.2)
theorem slV_none (n : Nat) : slV none n = .slice none 0 0 := by unfold slV; rfl
theorem slV_some (g c n : Nat) : slV (some (g, c)) n = .slice (some ⟨g, 0, none⟩) n (n + c) := by unfold slV; rfl
def updR (M : Ar) (row : Option (Nat × Nat)) (x : It) : Ar := match row with
  | none => M
  | some g => M.upd g.1 (some x)
def rowC {α : Type} (enc : α → List D) (L : List α) (rest : List Value) : List D := L.flatMap enc ++ rest.map .v
theorem flat_len {α : Type} {enc : α → List D} {e : Nat} : ∀ {L : List α}, (∀ (i : Nat) x, L[i]? = some x → (enc x).length = e) → (L.flatMap enc).length = L.length * e
  | [], _ => by simp
  | x :: r, h => by
    rw [List.flatMap_cons, List.length_append, flat_len (L := r) (fun i x hx => h (i + 1) x (by simpa using hx)), h 0 x rfl, List.length_cons, Nat.succ_mul]; omega
theorem flat_get {α : Type} {enc : α → List D} {e : Nat} : ∀ {L : List α} {i : Nat} {x : α} {j : Nat}, (∀ (i : Nat) x, L[i]? = some x → (enc x).length = e) → L[i]? = some x → j < e → (L.flatMap enc)[i * e + j]? = (enc x)[j]?
  | [], _, _, _, _, h, _ => by simp at h
  | y :: r, 0, x, j, hl, h, hj => by
    injection h with h; subst h
    have h0 := hl 0 y rfl
    rw [List.flatMap_cons, Nat.zero_mul, Nat.zero_add, List.getElem?_append_left (by omega)]
  | y :: r, i + 1, x, j, hl, h, hj => by
    have h0 := hl 0 y rfl
    rw [List.flatMap_cons, Nat.succ_mul, List.getElem?_append_right (by omega), show i * e + e + j - (enc y).length = i * e + j by omega]
    exact flat_get (fun i x hx => hl (i + 1) x (by simpa using hx)) (by simpa using h) hj
section
variable {P : Program} {tt : TT} {E : Env} {s : St} {σ : Nat → Nat} {τ : Nat → Value} {a : Act} {w : World}

theorem setA_state (hs : SR E s σ τ a w) {i g : Nat} {S : Nat → Prop} {M : Ar} {o : Obj} (hid : lget s.H i = some (arL S M)) (hM : M g = some (.ob o)) (o' : Obj) :
    SR E ⟨s.F, (i, arL S (M.upd g (some (.ob o')))) :: s.H, s.nx, s.G⟩ σ τ a { w with heap := w.heap.setIfInBounds g o' } := by
  have hSM := (hs.heap.obj i _ hid).2.1
  have hSg : S g := (hSM g).2 ⟨_, hM⟩
  have hg : w.heap[g]? = some o := ar_at hs hid hM
  have hlt : g < w.heap.size := (Array.getElem?_eq_some_iff.1 hg).1
  have hk : ∀ k, k ≠ g → (w.heap.setIfInBounds g o')[k]? = w.heap[k]? := fun k hk => by rw [Array.getElem?_setIfInBounds, if_neg (fun h => hk h.symm)]
  have hsz : (w.heap.setIfInBounds g o').size = w.heap.size := by simp
  refine (ar_state hs hid (w' := { w with heap := w.heap.setIfInBounds g o' }) rfl rfl rfl (Nat.le_of_eq hsz.symm) (Nat.le_refl _) (H' := (i, arL S (M.upd g (some (.ob o')))) :: s.H) (lget_same _ _ _) (fun id hne => .inl (lget_ne _ _ hne)) (fun k _ hS => hk k fun e => hS (e ▸ hSg))
    (fun k hS => ⟨by show k < (w.heap.setIfInBounds g o').size; rw [hsz]; exact ((hs.heap.obj i _ hid).1 k hS).2, .inl hS⟩) (fun hle => ⟨fun k => ?_, fun k x hx => ?_⟩)).1
  · by_cases hkg : k = g
    · subst hkg; rw [Ar.upd_same]; exact ⟨fun _ => ⟨_, rfl⟩, fun _ => hSg⟩
    · rw [Ar.upd_ne _ _ hkg]; exact hSM k
  · by_cases hkg : k = g
    · subst hkg
      rw [Ar.upd_same] at hx
      injection hx with hx; subst hx
      show (w.heap.setIfInBounds k o')[k]? = some o'
      simp [hlt]
    · rw [Ar.upd_ne _ _ hkg] at hx
      exact It.at_le (ar_at hs hid hx) (fun o ho => (hk k hkg).trans ho) hle.still

theorem newA_state (hs : SR E s σ τ a w) {i : Nat} {S : Nat → Prop} {M : Ar} (hid : lget s.H i = some (arL S M)) (o : Obj) :
    M w.heap.size = none ∧ SR E ⟨s.F, (i, arL (fun k => S k ∨ k = w.heap.size) (M.upd w.heap.size (some (.ob o)))) :: s.H, s.nx, s.G⟩ σ τ a (w.alloc o) := by
  have hSM := (hs.heap.obj i _ hid).2.1
  have hlt : ∀ k, S k → k < w.heap.size := fun k hk => ((hs.heap.obj i _ hid).1 k hk).2
  have hnone : M w.heap.size = none := by
    cases hq : M w.heap.size with
    | none => rfl
    | some x => exact absurd (hlt _ ((hSM _).2 ⟨x, hq⟩)) (Nat.lt_irrefl _)
  have hsz : (w.alloc o).heap.size = w.heap.size + 1 := by simp
  refine ⟨hnone, (ar_state hs hid (w' := w.alloc o) rfl rfl rfl (by rw [hsz]; omega) (Nat.le_refl _) (H' := (i, arL (fun k => S k ∨ k = w.heap.size) (M.upd w.heap.size (some (.ob o)))) :: s.H) (lget_same _ _ _) (fun id hne => .inl (lget_ne _ _ hne)) (fun k hk _ => Below.heap_alloc w o k hk)
    (fun k hk => by
      rcases hk with hk | rfl
      · exact ⟨by rw [hsz]; exact Nat.lt_succ_of_lt (hlt k hk), .inl hk⟩
      · exact ⟨by rw [hsz]; omega, .inr (.inl (Nat.le_refl _))⟩) (fun hle => ⟨fun k => ?_, fun k x hx => ?_⟩)).1⟩
  · by_cases hkg : k = w.heap.size
    · subst hkg; rw [Ar.upd_same]; exact ⟨fun _ => ⟨_, rfl⟩, fun _ => .inr rfl⟩
    · rw [Ar.upd_ne _ _ hkg]; exact ⟨fun h => (hSM k).1 (h.resolve_right hkg), fun h => .inl ((hSM k).2 h)⟩
  · by_cases hkg : k = w.heap.size
    · subst hkg
      rw [Ar.upd_same] at hx
      injection hx with hx; subst hx
      exact Go.heap_alloc_new w o
    · rw [Ar.upd_ne _ _ hkg] at hx
      have hl := It.lt (ar_at hs hid hx)
      exact It.at_le (ar_at hs hid hx) (fun x ho => (Below.heap_alloc w o k hl).trans ho) hle.still

theorem op_makeMapA {gg : Bool} {o : Oper} {t : TypeId} {i : Nat} {S : Nat → Prop} {M : Ar} (ho : o.op = .makeMap t none) (hid : lget s.H i = some (arL S M)) {K : D → St → Prop}
    (h : ∀ g S', M g = none → K (.v (.map (some g))) ⟨s.F, (i, arL S' (M.upd g (some (.ob (.map #[] 0))))) :: s.H, s.nx, s.G⟩) : OpVC P gg o s K := by
  intro E σ τ a w hs next Q hn
  unfold Oper.wp
  have hrun : (execOp a.eval o).run P w = .ok (.value (.map (some w.heap.size))) (w.alloc (.map #[] 0)) := by
    simp only [execOp, ho, Option.map_none]
    rfl
  rw [hrun]
  obtain ⟨h1, h2⟩ := newA_state hs hid (.map #[] 0)
  exact hn _ _ _ _ _ _ (h _ _ h1) h2 .v (fun _ => (Below.refl _ _).alloc (Nat.le_refl _) _)

theorem pv_mapLen (htt : ttOk P tt) {x : Operand} {t kt e : TypeId} {sz by_ : Nat} {z : List Value} {g i : Nat} {S : Nat → Prop} {M : Ar} {es : Array MapEntry} {c : Nat} {K : D → Prop} {o : Op} (ho : o = .call { callee := .builtin .len, args := #[x], argTypes := #[t] }) (hx : evD s x = .v (.map (some g))) (ht : tfind tt t = some ⟨.map kt e, sz, by_, z⟩)
    (hid : lget s.H i = some (arL S M)) (hM : M g = some (.ob (.map es c))) (hk : K (.v (.int .i64 (es.size : Nat)))) : PureVC P s o K := by
  refine ⟨fun o' ho' E σ τ a w hs => ?_⟩
  obtain ⟨de, i', zv, k1, _, _, k4, _⟩ := view_spec (tfind_view htt ht)
  have hde : ∃ kt' e', de = .map kt' e' := by cases de <;> simp [udOf] at k4; exact ⟨_, _, rfl⟩
  obtain ⟨kt', e', rfl⟩ := hde
  have hv := evD_rep hs x
  rw [hx] at hv
  have hv := rep_v hv
  have hob : w.heap[g]? = some (.map es c) := ar_at hs hid hM
  refine ⟨_, _, hk, .v, fun w' hw' => ?_⟩
  rcases hw' with hw' | hw'
  · rw [ho', ho] at hw'; cases hw'
  have hob' : w'.heap[g]? = some (.map es c) := hw'.2 g _ hob ⟨_, _, rfl⟩
  simp [execOp, ho', ho, resolve, invoke, builtin, hv, Builtin.len_, run_und k1, goInt, getObj, Sem.run, hob']

variable {K : D → St → Prop}
theorem op_lookupA {gg : Bool} {o : Oper} {t kt et : TypeId} {z : Value} {x k : Operand} {i g : Nat} {S : Nat → Prop} {M : Ar} {vs : List Value} {L : List MapEntry} {c : Nat} {lk : Lit} (ho : o.op = .lookup t x k false) (hu : P.underlying t = some (.map kt et)) (hz : (P.info? et).map (fun i => i.zero) = some (some z)) (hlaw : WideMaps.KeyLaw P kt)
    (hx : evD s x = .v (.map (some g))) (hk : evD s k = .agg (vs.map .v)) (hid : lget s.H i = some (arL S M)) (hM : M g = some (.ob (.map L.toArray c))) (hkey : keyOf P kt (.agg vs.toArray) = some lk) (hL : ∀ e ∈ L, ∃ l, keyOf P kt e.key = some l)
    (h0 : (∀ e ∈ L, e.key ≠ .agg vs.toArray) → K (.v z) s) (h1 : ∀ e ∈ L, e.key = .agg vs.toArray → K (.v e.val) s) : OpVC P gg o s K := by
  intro E σ τ a w hs next Q hn
  have hv := evD_rep hs x
  rw [hx] at hv
  have hv := rep_v hv
  have hkv := evD_rep hs k
  rw [hk] at hkv
  have hkv := agg_v hkv
  have hob' : w.heap[g]? = some (.map L.toArray c) := ar_at hs hid hM
  have hzr : (zeroValue et).run P w = .ok z w := by
    cases hi : P.info? et with
    | none => rw [hi] at hz; cases hz
    | some i =>
      rw [hi] at hz
      have hz : i.zero = some z := by simpa using hz
      simp [zeroValue, typeInfo, hi, hz]
  unfold Oper.wp
  rcases hlaw.find w hkey L hL with ⟨f1, f2⟩ | ⟨j, e, f1, f2, f3⟩
  · have hrun : (execOp a.eval o).run P w = .ok (.value z) w := by
      simp only [execOp, ho, Instr.lookup, Sem.run_bind, run_und hu, Result.andThen_ok, hv, hkv, getObj, Sem.run, hob', hlaw.check w _ hkey, Sem.run_pure, List.toList_toArray, f1]
      simp [hzr]
    rw [hrun]
    exact hn _ _ _ _ _ _ (h0 f2) hs .v (fun _ => Below.refl _ _)
  · have hrun : (execOp a.eval o).run P w = .ok (.value e.val) w := by
      simp only [execOp, ho, Instr.lookup, Sem.run_bind, run_und hu, Result.andThen_ok, hv, hkv, getObj, Sem.run, hob', hlaw.check w _ hkey, Sem.run_pure, List.toList_toArray, f1]
      simp
    rw [hrun]
    exact hn _ _ _ _ _ _ (h1 e (List.mem_of_getElem? f2) f3) hs .v (fun _ => Below.refl _ _)

theorem op_setMapA {o : Oper} {t kt et : TypeId} {x k v : Operand} {i g : Nat} {S : Nat → Prop} {M : Ar} {vs : List Value} {u : Value} {L : List MapEntry} {c : Nat} {lk : Lit} (ho : o.op = .mapUpdate t x k v) (hu : P.underlying t = some (.map kt et)) (hlaw : WideMaps.KeyLaw P kt)
    (hx : evD s x = .v (.map (some g))) (hk : evD s k = .agg (vs.map .v)) (hval : evD s v = .v u) (hid : lget s.H i = some (arL S M)) (hM : M g = some (.ob (.map L.toArray c))) (hkey : keyOf P kt (.agg vs.toArray) = some lk) (hL : ∀ e ∈ L, ∃ l, keyOf P kt e.key = some l)
    (h0 : (∀ e ∈ L, e.key ≠ .agg vs.toArray) → K (.v undef) ⟨s.F, (i, arL S (M.upd g (some (.ob (.map (L ++ [({ key := .agg vs.toArray, val := u, born := c } : MapEntry)]).toArray (c + 1)))))) :: s.H, s.nx, s.G⟩)
    (h1 : ∀ (j : Nat) (e : MapEntry), L[j]? = some e → e.key = .agg vs.toArray → K (.v undef) ⟨s.F, (i, arL S (M.upd g (some (.ob (.map (L.set j { e with val := u }).toArray c))))) :: s.H, s.nx, s.G⟩) : OpVC P false o s K := by
  intro E σ τ a w hs next Q hn
  have hv := evD_rep hs x
  rw [hx] at hv
  have hv := rep_v hv
  have hkv := evD_rep hs k
  rw [hk] at hkv
  have hkv := agg_v hkv
  have huv := evD_rep hs v
  rw [hval] at huv
  have huv := rep_v huv
  have hob' : w.heap[g]? = some (.map L.toArray c) := ar_at hs hid hM
  unfold Oper.wp
  rcases hlaw.find w hkey L hL with ⟨f1, f2⟩ | ⟨j, e, f1, f2, f3⟩
  · have hrun : (execOp a.eval o).run P w = .ok .skip { w with heap := w.heap.setIfInBounds g (.map (L ++ [({ key := .agg vs.toArray, val := u, born := c } : MapEntry)]).toArray (c + 1)) } := by
      simp only [execOp, ho, Instr.mapUpdate, Sem.run_bind, run_und hu, Result.andThen_ok, hv, hkv, huv, getObj, Sem.run, hob', hlaw.check w _ hkey, Sem.run_pure, List.toList_toArray, f1, MapKept.run_setObj_map _ hob']
      simp
    rw [hrun]
    exact hn _ _ _ _ _ _ (h0 f2) (setA_state hs hid hM _) .v (fun h => by cases h)
  · have hst := hlaw.stays w hkey
    have hkeep : (Instr.keyThatStays (((L.toArray[j]?).map (·.key)).getD (.agg vs.toArray)) (.agg vs.toArray)).run P w = .ok (.agg vs.toArray) w := by
      have : ((L.toArray[j]?).map (·.key)).getD (.agg vs.toArray) = .agg vs.toArray := by simp [f2, f3]
      rw [this]; exact hst
    have hmod : L.toArray.modify j (fun (e : MapEntry) => ({ key := .agg vs.toArray, val := u, born := e.born } : MapEntry)) = (L.set j { e with val := u }).toArray := by
      apply Array.ext'
      simp only [Array.toList_modify]
      apply List.ext_getElem?
      intro q
      rw [List.getElem?_modify, List.getElem?_set]
      have hjl : j < L.length := (List.getElem?_eq_some_iff.1 f2).1
      by_cases hq : j = q
      · subst hq
        have hje := (List.getElem?_eq_some_iff.1 f2).2
        simp [hjl, hje, ← f3]
      · simp [hq]
    have hrun : (execOp a.eval o).run P w = .ok .skip { w with heap := w.heap.setIfInBounds g (.map (L.set j { e with val := u }).toArray c) } := by
      simp only [execOp, ho, Instr.mapUpdate, Sem.run_bind, run_und hu, Result.andThen_ok, hv, hkv, huv, getObj, Sem.run, hob', hlaw.check w _ hkey, Sem.run_pure, List.toList_toArray, f1, hkeep, MapKept.run_setObj_map _ hob', hmod]
    rw [hrun]
    exact hn _ _ _ _ _ _ (h1 j e f2 f3) (setA_state hs hid hM _) .v (fun h => by cases h)

theorem op_delMapA {o : Oper} {t t2 kt et : TypeId} {x k : Operand} {i g : Nat} {S : Nat → Prop} {M : Ar} {vs : List Value} {L : List MapEntry} {c : Nat} {lk : Lit} (ho : o.op = .call { callee := .builtin .delete, args := #[x, k], argTypes := #[t, t2] }) (hu : P.underlying t = some (.map kt et)) (hlaw : WideMaps.KeyLaw P kt)
    (hx : evD s x = .v (.map (some g))) (hk : evD s k = .agg (vs.map .v)) (hid : lget s.H i = some (arL S M)) (hM : M g = some (.ob (.map L.toArray c))) (hkey : keyOf P kt (.agg vs.toArray) = some lk) (hL : ∀ e ∈ L, ∃ l, keyOf P kt e.key = some l)
    (h0 : (∀ e ∈ L, e.key ≠ .agg vs.toArray) → K (.v (.tuple #[])) ⟨s.F, (i, arL S (M.upd g (some (.ob (.map L.toArray c))))) :: s.H, s.nx, s.G⟩)
    (h1 : ∀ (j : Nat) (e : MapEntry), L[j]? = some e → e.key = .agg vs.toArray → K (.v (.tuple #[])) ⟨s.F, (i, arL S (M.upd g (some (.ob (.map (L.eraseIdx j).toArray c))))) :: s.H, s.nx, s.G⟩) : OpVC P false o s K := by
  intro E σ τ a w hs next Q hn
  have hv := evD_rep hs x
  rw [hx] at hv
  have hv := rep_v hv
  have hkv := evD_rep hs k
  rw [hk] at hkv
  have hkv := agg_v hkv
  have hob' : w.heap[g]? = some (.map L.toArray c) := ar_at hs hid hM
  unfold Oper.wp
  rcases hlaw.find w hkey L hL with ⟨f1, f2⟩ | ⟨j, e, f1, f2, f3⟩
  · have hrun : (execOp a.eval o).run P w = .ok (.value (.tuple #[])) { w with heap := w.heap.setIfInBounds g (.map L.toArray c) } := by
      simp [execOp, ho, resolve, invoke, builtin, Builtin.delete_, run_und hu, hv, hkv, getObj, Sem.run, hob', hlaw.check w _ hkey, f1, MapKept.run_setObj_map _ hob']
    rw [hrun]
    exact hn _ _ _ _ _ _ (h0 f2) (setA_state hs hid hM _) .v (fun h => by cases h)
  · have hrun : (execOp a.eval o).run P w = .ok (.value (.tuple #[])) { w with heap := w.heap.setIfInBounds g (.map (L.eraseIdx j).toArray c) } := by
      simp [execOp, ho, resolve, invoke, builtin, Builtin.delete_, run_und hu, hv, hkv, getObj, Sem.run, hob', hlaw.check w _ hkey, f1, MapKept.run_setObj_map _ hob']
    rw [hrun]
    exact hn _ _ _ _ _ _ (h1 j e f2 f3) (setA_state hs hid hM _) .v (fun h => by cases h)

end
end Go.Proofs.Ytfepckbhnghpeaa.V
namespace Go.Proofs.Ytfepckbhnghpeaa.V
open Go.RowKit

def setT (τ : Nat → Value) (n : Nat) (v : Value) : Nat → Value := fun i => if i = n then v else τ i

section
variable {P : Program} {tt : TT} {E : Env} {s : St} {σ : Nat → Nat} {τ : Nat → Value} {a : Act} {w : World} {K : D → St → Prop}

theorem emit_state (hs : SR E s σ τ a w) {i g n c : Nat} {S : Nat → Prop} {M : Ar} {α : Type} {el e : Nat} {enc : α → List D} {L : List α} {l : List D} (hid : lget s.H i = some (arL S M)) (hM : M g = some (.cells el l)) (hn : n = L.length) (hlen : ∀ (i : Nat) x, L[i]? = some x → (enc x).length = e)
    (hcell : ∀ (q : Nat) x (j : Nat) d, L[q]? = some x → (enc x)[j]? = some d → l[q * e + j]? = some d) (hsz : l.length = (n + c) * e) (hmax : n + c ≤ Go.maxLen) :
    SR E ⟨s.F, (s.nx, .grow α el e enc L) :: (i, arL (fun k => S k ∧ k ≠ g) (M.upd g none)) :: s.H, s.nx + 1, s.G⟩ σ (setT τ s.nx (.slice (some ⟨g, 0, none⟩) n (n + c))) a w := by
  subst hn
  obtain ⟨hSb, hSM, _⟩ := hs.heap.obj i _ hid
  have hSg : S g := (hSM g).2 ⟨_, hM⟩
  have hin : i < s.nx := hs.heap.below i _ hid
  obtain ⟨cc, hg, hr⟩ := ar_at hs hid hM
  have hg : w.heap[g]? = some (.cells cc el (0, 0)) := hg
  have hglt : g < w.heap.size := (Array.getElem?_eq_some_iff.1 hg).1
  -- without the block
  have hS' : ∀ k, (S k ∧ k ≠ g) ↔ ∃ x, (M.upd g none) k = some x := fun k => by
    by_cases hk : k = g
    · subst hk; rw [Ar.upd_same]; exact ⟨fun h => absurd rfl h.2, fun ⟨_, h⟩ => by cases h⟩
    · rw [Ar.upd_ne _ _ hk]; exact ⟨fun h => (hSM k).1 h.1, fun h => ⟨(hSM k).2 h, hk⟩⟩
  obtain ⟨h1, hle1⟩ := ar_state hs hid (w' := w) rfl rfl rfl (Nat.le_refl _) (Nat.le_refl _) (H' := (i, arL (fun k => S k ∧ k ≠ g) (M.upd g none)) :: s.H) (lget_same _ _ _) (fun id hne => .inl (lget_ne _ _ hne)) (fun _ _ _ => rfl) (fun k hk => ⟨(hSb k hk.1).2, .inl hk.1⟩)
    (fun hle => ⟨hS', fun k x hx => by
      by_cases hk : k = g
      · subst hk; rw [Ar.upd_same] at hx; cases hx
      · rw [Ar.upd_ne _ _ hk] at hx
        exact It.at_le (ar_at hs hid hx) (fun _ h => h) hle.still⟩)
  generalize hH1 : (i, arL (fun k => S k ∧ k ≠ g) (M.upd g none)) :: s.H = H1 at *
  have hnx : ∀ id o, lget H1 id = some o → id ≠ s.nx := fun id o ho => Nat.ne_of_lt (h1.heap.below id o ho)
  have hnot : ∀ id, ¬ owned H1 σ τ id g := fun id ho => by
    by_cases hi : id = i
    · subst hi
      have := (owned_ar (S := fun k => S k ∧ k ≠ g) (M := M.upd g none) (by rw [← hH1]; exact lget_same _ _ _)).1 ho
      exact this.2 rfl
    · have ho2 : owned s.H σ τ id g := owned_of (by rw [← hH1]; exact lget_ne _ _ hi) ho
      exact hi (hs.heap.apart id i g ho2 ((owned_ar hid).2 hSg))
  have hτ : ∀ id, id ≠ s.nx → setT τ s.nx (.slice (some ⟨g, 0, none⟩) L.length (L.length + c)) id = τ id := fun id h => by simp [setT, h]
  have hτn : setT τ s.nx (.slice (some ⟨g, 0, none⟩) L.length (L.length + c)) s.nx = .slice (some ⟨g, 0, none⟩) L.length (L.length + c) := by simp [setT]
  generalize setT τ s.nx (.slice (some ⟨g, 0, none⟩) L.length (L.length + c)) = τ' at *
  have hown : ∀ id k, owned ((s.nx, .grow α el e enc L) :: H1) σ τ' id k → (id = s.nx ∧ k = g) ∨ (id ≠ s.nx ∧ owned H1 σ τ id k) := fun id k ho => by
    by_cases hi : id = s.nx
    · left
      subst hi
      refine ⟨rfl, ?_⟩
      rcases ho with ⟨_, _, h, _⟩ | ⟨_, _, _, _, _, h, h'⟩ | ⟨_, h, _⟩
      · rw [lget_same] at h; cases h
      · rw [hτn] at h'; injection h' with h'; exact h'.symm
      · rw [lget_same] at h; cases h
    · right
      refine ⟨hi, ?_⟩
      unfold owned at ho ⊢
      rw [lget_ne _ _ hi, hτ id hi] at ho
      exact ho
  have hle : (ctxOf E H1 s.nx σ τ w).still.Le (ctxOf E ((s.nx, .grow α el e enc L) :: H1) (s.nx + 1) σ τ' w).still → True := fun _ => trivial
  -- facts of memory that don't lie in g
  have hmono : ∀ (C : Ctx), C.w = w → True := fun _ _ => trivial
  have hctx : ∀ k, (ctxOf E H1 s.nx σ τ w).ok k → k ≠ g → (ctxOf E ((s.nx, .grow α el e enc L) :: H1) (s.nx + 1) σ τ' w).ok k := fun k hk hkg => ⟨hk.1, hk.2.1, fun id ho => by
    rcases hown id k ho with ⟨_, h⟩ | ⟨_, h⟩
    · exact hkg h
    · exact hk.2.2 id h⟩
  have hctx0 : ∀ k, (ctxOf E s.H s.nx σ τ w).ok k → (ctxOf E ((s.nx, .grow α el e enc L) :: H1) (s.nx + 1) σ τ' w).ok k := fun k hk => hctx k (hle1.ok k hk) fun e => hk.2.2 i ((owned_ar hid).2 (e ▸ hSg))
  have hleA : (ctxOf E s.H s.nx σ τ w).Le (ctxOf E ((s.nx, .grow α el e enc L) :: H1) (s.nx + 1) σ τ' w) :=
    ⟨fun _ _ _ h => h, hctx0, fun id off v h => ⟨Nat.lt_succ_of_lt h.1, h.2⟩, fun id v h => ⟨Nat.lt_succ_of_lt h.1, by rw [hτ id (Nat.ne_of_lt h.1)]; exact h.2⟩, fun id off v h => ⟨Nat.lt_succ_of_lt h.1, by rw [hτ id (Nat.ne_of_lt h.1)]; exact h.2⟩⟩
  have hback : ∀ id o, id ≠ s.nx → id ≠ i → lget ((s.nx, LO.grow α el e enc L) :: H1) id = some o → lget s.H id = some o := fun id o h1 h2 h => by
    rw [lget_ne _ _ h1, ← hH1, lget_ne _ _ h2] at h
    exact h
  have hiH : lget ((s.nx, LO.grow α el e enc L) :: H1) i = some (arL (fun k => S k ∧ k ≠ g) (M.upd g none)) := by
    rw [lget_ne _ _ (Nat.ne_of_lt hin), ← hH1, lget_same]
  refine ⟨⟨hs.heap.kept, hs.heap.few, fun id el' l' h => ?_, fun id β el' e' enc' L' h => ?_, fun x y k hx hy => ?_, fun id o h => ?_, fun id => ?_, fun id o h => ?_⟩, hs.defers, hs.size, fun j d hd => (hs.slots j d hd).mono hleA, fun G d v hx => ?_, Nat.le_succ_of_le hs.room⟩
  · have h' : lget ((s.nx, LO.grow α el e enc L) :: H1) id = _ := h
    have n1 : id ≠ s.nx := by rintro rfl; rw [lget_same] at h'; cases h'
    have n2 : id ≠ i := by rintro rfl; rw [hiH] at h'; cases h'
    obtain ⟨q1, c', q2, q3, q4⟩ := hs.heap.cells id el' l' (hback id _ n1 n2 h')
    exact ⟨q1, c', q2, q3, fun j d u hd hu => (q4 j d u hd hu).mono hleA⟩
  · have h' : lget ((s.nx, LO.grow α el e enc L) :: H1) id = _ := h
    by_cases n1 : id = s.nx
    · subst n1
      rw [lget_same] at h'
      injection h' with h'; injection h' with e1 e2 e3 e4 e5
      subst e1 e2 e3
      have e4 := eq_of_heq e4
      have e5 := eq_of_heq e5
      subst e4 e5
      rw [hτn]
      refine ⟨fun b hb => ?_, cc.toList.take (L.length * e), ⟨?_, .inr ⟨g, L.length + c, cc, rfl, Nat.zero_le _, hg, by omega, hmax, ?_, rfl⟩⟩, hlen, fun q x j d u hx hd hu => ?_⟩
      · injection hb with hb; subst hb
        exact (hSb g hSg).1
      · rw [List.length_take, hr.1, hsz, Nat.add_mul]; omega
      · rw [← Array.length_toList, hr.1, hsz]
      · rw [List.getElem?_take] at hu
        split at hu
        · exact (hr.2 _ d u (hcell q x j d hx hd) hu).mono ⟨fun _ _ _ h => h, hctx0, fun _ _ _ h => h, fun _ _ h => h, fun _ _ _ h => h⟩
        · cases hu
    · have n2 : id ≠ i := by rintro rfl; rw [hiH] at h'; cases h'
      obtain ⟨q1, xs, q2, q3, q4⟩ := hs.heap.grow id β el' e' enc' L' (hback id _ n1 n2 h')
      rw [hτ id n1]
      exact ⟨q1, xs, q2, q3, fun q x y d u hx hd hu => (q4 q x y d u hx hd hu).mono hleA.still⟩
  · rcases hown x k hx with ⟨e1, e2⟩ | ⟨e1, e2⟩ <;> rcases hown y k hy with ⟨f1, f2⟩ | ⟨f1, f2⟩
    · rw [e1, f1]
    · subst e2; exact absurd f2 (hnot y)
    · subst f2; exact absurd e2 (hnot x)
    · exact h1.heap.apart x y k e2 f2
  · have h' : lget ((s.nx, LO.grow α el e enc L) :: H1) id = _ := h
    by_cases n1 : id = s.nx
    · subst n1; exact Nat.lt_succ_self _
    · rw [lget_ne _ _ n1] at h'; exact Nat.lt_succ_of_lt (h1.heap.below id o h')
  · by_cases n1 : id = s.nx
    · subst n1; exact ⟨_, _, _, hτn⟩
    · rw [hτ id n1]; exact hs.heap.slices id
  · have h' : lget ((s.nx, LO.grow α el e enc L) :: H1) id = _ := h
    have n1 : id ≠ s.nx := by rintro rfl; rw [lget_same] at h'; cases h'
    by_cases n2 : id = i
    · subst n2
      rw [hiH] at h'
      injection h' with h'; injection h' with h'; subst h'
      refine ⟨fun k hk => hSb k hk.1, hS', fun k x hx => ?_⟩
      by_cases hk : k = g
      · subst hk; rw [Ar.upd_same] at hx; cases hx
      · rw [Ar.upd_ne _ _ hk] at hx
        exact It.at_le (ar_at hs hid hx) (fun _ h => h) hleA.still
    · obtain ⟨q1, q2⟩ := hs.heap.obj id o (hback id _ n1 n2 h')
      exact ⟨q1, OA.at_le q2 (fun _ _ => rfl) hleA.still⟩
  · obtain ⟨q1, q2, q3⟩ := hs.ghost G d v hx
    exact ⟨q1, q2, q3.mono (hleA.only G)⟩

theorem op_emit {gg : Bool} {o : Oper} {j i g n c : Nat} {S : Nat → Prop} {M : Ar} {α : Type} {el e : Nat} {enc : α → List D} {L : List α} {l : List D} (hj : slotD s j = .v (.slice (some ⟨g, 0, none⟩) n (n + c))) (hid : lget s.H i = some (arL S M)) (hM : M g = some (.cells el l)) (hn : n = L.length) (hlen : ∀ (i : Nat) x, L[i]? = some x → (enc x).length = e)
    (hcell : ∀ (q : Nat) x (j : Nat) d, L[q]? = some x → (enc x)[j]? = some d → l[q * e + j]? = some d) (hsz : l.length = (n + c) * e) (hmax : n + c ≤ Go.maxLen)
    (h : ∀ S', OpVC P gg o ⟨(j, .grow s.nx) :: s.F, (s.nx, .grow α el e enc L) :: (i, arL S' (M.upd g none)) :: s.H, s.nx + 1, s.G⟩ K) : OpVC P gg o s K := by
  intro E σ τ a w hs next Q hn'
  have h1 := emit_state hs hid hM hn hlen hcell hsz hmax
  have hv := hs.slot j
  rw [hj] at hv
  have hv := rep_v hv
  refine h _ E σ _ a w ⟨h1.heap, h1.defers, h1.size, fun k d hd => ?_, h1.ghost, h1.room⟩ next Q hn'
  by_cases hk : k = j
  · subst hk
    have hd : lget ((k, D.grow s.nx) :: s.F) k = some d := hd
    rw [lget_same] at hd
    injection hd with hd; subst hd
    refine .grow ⟨Nat.lt_succ_self _, ?_⟩
    rw [hv]; simp [setT]
  · have hd : lget ((j, D.grow s.nx) :: s.F) k = some d := hd
    rw [lget_ne _ _ hk] at hd
    exact h1.slots k d hd

theorem slots_state (hs : SR E s σ τ a w) {f : D → D} (hf : ∀ d v, Rep (ctxOf E s.H s.nx σ τ w) d v → Rep (ctxOf E s.H s.nx σ τ w) (f d) v) : SR E ⟨mapF f s.F, s.H, s.nx, s.G⟩ σ τ a w :=
  ⟨hs.heap, hs.defers, hs.size, fun i d h => by
    have h : lget (mapF f s.F) i = some d := h
    rw [show lget (mapF f s.F) i = (lget s.F i).map f from lget_map _ _ _] at h
    cases hq : lget s.F i with
    | none => rw [hq] at h; cases h
    | some x =>
      rw [hq] at h
      simp only [Option.map_some, Option.some.injEq] at h
      subst h
      exact hf x _ (hs.slots i x hq), hs.ghost, hs.room⟩

theorem absorbRow_state (hs : SR E s σ τ a w) {i r : Nat} {S : Nat → Prop} {M : Ar} {α : Type} {el e : Nat} {enc : α → List D} {L : List α} (hid : lget s.H i = some (arL S M)) (hr : lget s.H r = some (.grow α el e enc L)) :
    ∃ (row : Option (Nat × Nat)) (rest : List Value) (S' : Nat → Prop), (row = none → L = []) ∧ (∀ x, row = some x → M x.1 = none ∧ rest.length = x.2 * e ∧ L.length + x.2 ≤ Go.maxLen) ∧ τ r = slV row L.length ∧
      SR E ⟨mapF (rowD 6 r (.v (slV row L.length))) s.F, (i, arL S' (updR M row (.cells el (rowC enc L rest)))) :: (r, .dead) :: s.H, s.nx, s.G⟩ σ τ a w := by
  have hne : r ≠ i := by rintro rfl; rw [hid] at hr; cases hr
  obtain ⟨h1, xs, ⟨hxl, hown⟩, hlen, hrep⟩ := hs.heap.grow r α el e enc L hr
  have hSM := (hs.heap.obj i _ hid).2.1
  have hH : ∀ (X : LO) id, id ≠ i → lget ((i, X) :: (r, LO.dead) :: s.H) id = lget s.H id ∨ (lget ((i, X) :: (r, LO.dead) :: s.H) id = some .dead ∧ id < s.nx) := fun X id hn => by
    by_cases h : id = r
    · subst h; exact .inr ⟨by rw [lget_ne _ _ hn, lget_same], hs.heap.below _ _ hr⟩
    · exact .inl (by rw [lget_ne _ _ hn, lget_ne _ _ h])
  have sub : ∀ {row : Option (Nat × Nat)} {H : List (Nat × LO)}, τ r = slV row L.length → SR E ⟨s.F, H, s.nx, s.G⟩ σ τ a w → SR E ⟨mapF (rowD 6 r (.v (slV row L.length))) s.F, H, s.nx, s.G⟩ σ τ a w := fun {row H} ht h =>
    slots_state h fun d v hd => row_rep (fun u hu => by rw [hu.2, ht]; exact .v) 6 d v hd
  rcases hown with ⟨hv, hn⟩ | ⟨g, cap, cur, hv, _, hg, hcap, hmax, hcs, htk⟩
  · have hL : L = [] := List.eq_nil_of_length_eq_zero hn
    have ht : τ r = slV none L.length := by rw [hv, slV_none]
    refine ⟨none, [], _, fun _ => hL, (fun x hx => by cases hx), ht, sub ht (ar_state hs hid (w' := w) rfl rfl rfl (Nat.le_refl _) (Nat.le_refl _) (H' := (i, arL S M) :: (r, .dead) :: s.H) (lget_same _ _ _) (hH _) (fun _ _ _ => rfl) (fun k hk => ⟨((hs.heap.obj i _ hid).1 k hk).2, .inl hk⟩)
      (fun hle => ⟨hSM, fun k x hx => It.at_le (ar_at hs hid hx) (fun _ h => h) hle.still⟩)).1⟩
  · have hor : owned s.H σ τ r g := .inr (.inl ⟨_, _, _, _, _, hr, by rw [hv]; rfl⟩)
    have hMg : M g = none := by
      cases hq : M g with
      | none => rfl
      | some x => exact absurd (hs.heap.apart r i g hor ((owned_ar hid).2 ((hSM _).2 ⟨x, hq⟩))) hne
    have hgl : g < w.heap.size := (Array.getElem?_eq_some_iff.1 hg).1
    have hle1 : L.length * e ≤ cap * e := Nat.mul_le_mul_right e hcap
    have hfl := flat_len (L := L) hlen
    have ht : τ r = slV (some (g, cap - L.length)) L.length := by rw [hv, slV_some, Nat.add_sub_cancel' hcap]
    refine ⟨some (g, cap - L.length), cur.toList.drop (L.length * e), fun k => S k ∨ k = g, (fun h => by cases h), fun x hx => ?_, ht, sub ht ?_⟩
    · injection hx with hx; subst hx
      exact ⟨hMg, by rw [List.length_drop, Array.length_toList, hcs, Nat.sub_mul], by show L.length + (cap - L.length) ≤ _; omega⟩
    · refine (ar_state hs hid (w' := w) rfl rfl rfl (Nat.le_refl _) (Nat.le_refl _) (H' := (i, arL (fun k => S k ∨ k = g) (M.upd g (some (.cells el (rowC enc L (cur.toList.drop (L.length * e))))))) :: (r, .dead) :: s.H) (lget_same _ _ _) (hH _) (fun _ _ _ => rfl)
        (fun k hk => ?_) (fun hle => ⟨fun k => ?_, fun k x hk => ?_⟩)).1
      · rcases hk with hk | rfl
        · exact ⟨((hs.heap.obj i _ hid).1 k hk).2, .inl hk⟩
        · exact ⟨hgl, .inr (.inr ⟨r, by rw [lget_ne _ _ hne, lget_same], hor⟩)⟩
      · by_cases hkg : k = g
        · subst hkg; rw [Ar.upd_same]; exact ⟨fun _ => ⟨_, rfl⟩, fun _ => .inr rfl⟩
        · rw [Ar.upd_ne _ _ hkg]
          exact ⟨fun h => (hSM k).1 (h.resolve_right hkg), fun h => .inl ((hSM k).2 h)⟩
      · by_cases hkg : k = g
        · subst hkg
          rw [Ar.upd_same] at hk
          injection hk with hk; subst hk
          refine ⟨cur, hg, ?_, fun q d u hd hu => ?_⟩
          · unfold rowC
            rw [List.length_append, List.length_map, List.length_drop, hfl, Array.length_toList, hcs]; omega
          · unfold rowC at hd
            by_cases hq : q < L.length * e
            · rw [List.getElem?_append_left (by rw [hfl]; exact hq)] at hd
              have hepos : 0 < e := by
                rcases Nat.eq_zero_or_pos e with h | h
                · subst h; omega
                · exact h
              have hi : q / e < L.length := Nat.div_lt_of_lt_mul (by rw [Nat.mul_comm]; exact hq)
              obtain ⟨x, hx⟩ : ∃ x, L[q / e]? = some x := ⟨_, List.getElem?_eq_getElem hi⟩
              have hdm : q / e * e + q % e = q := Nat.div_add_mod' q e
              have hfg := flat_get hlen hx (Nat.mod_lt q hepos)
              rw [hdm] at hfg
              rw [hfg] at hd
              refine (hrep _ x _ d u hx hd ?_).mono hle.still
              rw [hdm, ← htk, List.getElem?_take, if_pos hq, hu]
            · rw [List.getElem?_append_right (by rw [hfl]; omega), hfl, List.getElem?_map, List.getElem?_drop, show L.length * e + (q - L.length * e) = q by omega, hu] at hd
              simp only [Option.map_some, Option.some.injEq] at hd
              subst hd
              exact .v
        · rw [Ar.upd_ne _ _ hkg] at hk
          exact It.at_le (ar_at hs hid hk) (fun _ h => h) hle.still

theorem op_absorbRow {gg : Bool} {o : Oper} {i r : Nat} {S : Nat → Prop} {M : Ar} {α : Type} {el e : Nat} {enc : α → List D} {L : List α} (hid : lget s.H i = some (arL S M)) (hr : lget s.H r = some (.grow α el e enc L))
    (h : ∀ (row : Option (Nat × Nat)) (rest : List Value) (S' : Nat → Prop), (row = none → L = []) → (∀ x, row = some x → M x.1 = none ∧ rest.length = x.2 * e ∧ L.length + x.2 ≤ Go.maxLen) → OpVC P gg o ⟨mapF (rowD 6 r (.v (slV row L.length))) s.F, (i, arL S' (updR M row (.cells el (rowC enc L rest)))) :: (r, .dead) :: s.H, s.nx, s.G⟩ K) : OpVC P gg o s K := by
  intro E σ τ a w hs next Q hn
  obtain ⟨row, rest, S', h1, h2, _, h4⟩ := absorbRow_state hs hid hr
  exact h row rest S' h1 h2 E σ τ a w h4 next Q hn

/-! ### Exact slices -/
theorem cells_slV (row : Option (Nat × Nat)) (n : Nat) : cellsD (.v (slV row n)) = some [.v (slV row n)] := by
  cases row with
  | none => rw [slV_none]; rfl
  | some x => rw [show x = (x.1, x.2) from rfl, slV_some]; rfl
theorem ones_slV (row : Option (Nat × Nat)) (n : Nat) : onesD [.v (slV row n)] = true := by
  cases row with
  | none => rw [slV_none]; rfl
  | some x => rw [show x = (x.1, x.2) from rfl, slV_some]; rfl
theorem op_storeS (htt : ttOk P tt) {o : Oper} {x y : Operand} {t : TypeId} {ti : TI} {g p i n : Nat} {S : Nat → Prop} {M : Ar} {el : TypeId} {l l' : List D} {row : Option (Nat × Nat)} (ho : o.op = .store t x y) (hx : evD s x = .v (.pointer (some ⟨g, p, none⟩))) (ht : tfind tt t = some ti) (hone : ti.size = 1)
    (hid : lget s.H i = some (arL S M)) (hM : M g = some (.cells el l)) (hv : evD s y = .v (slV row n)) (hput : putD l p [.v (slV row n)] = some l')
    (h : K (.v undef) ⟨s.F, (i, arL S (M.upd g (some (.cells el l')))) :: s.H, s.nx, s.G⟩) : OpVC P false o s K :=
  op_storeA htt ho hx ht hid hM (by rw [hv]; exact cells_slV _ _) (ones_slV _ _) (by rw [hone]; rfl) rfl hput h
theorem pv_lenS (htt : ttOk P tt) {x : Operand} {t e : TypeId} {sz by_ : Nat} {z : List Value} {row : Option (Nat × Nat)} {n : Nat} {K : D → Prop} (hn : row = none → n = 0) (ht : tfind tt t = some ⟨.slice e, sz, by_, z⟩) (hx : evD s x = .v (slV row n)) (hk : K (.v (.int .i64 n))) :
    exactK (.v (slV row n)) (PureVC P s (.call { callee := .builtin .len, args := #[x], argTypes := #[t] }) K) (fun d => lenD tt s t d K) := by
  cases row with
  | none =>
    have := hn rfl
    subst this
    rw [slV_none]
    show lenD tt s t (.v (.slice none 0 0)) K
    unfold lenD
    rw [ht]
    exact hk
  | some y =>
    obtain ⟨g, c⟩ := y
    rw [slV_some] at hx ⊢
    exact pv_len htt rfl hx ht hk
/-! ### Calls that look at an arena -/
theorem CallVC.lookA {g : Bool} {i : Nat} {S : Nat → Prop} {M : Ar} {f : FuncId} {args args0 : List D} {Q : D → Prop} (hf : FnN P f args0 Q) (hid : lget s.H i = some (arL S M)) (hcut : args.all (cutOk 6 0) = true)
    (hconv : ∀ (C : Ctx) (vs : List Value), (∀ k x, M k = some x → C.ok k ∧ x.at C k) → reps C args vs → reps C args0 vs) (h : ∀ d, Q d → K d s) : CallVC P g f args s K := by
  refine ⟨hf.1, fun E σ τ a w args' hs hr => ?_⟩
  have hle : (ctxOf E s.H s.nx σ τ w).still.Le (baseCtx w fun b => ((E.B b ∨ E.K b) ∨ E.w.heap.size ≤ b) ∧ b < w.heap.size) := by
    refine ⟨fun _ _ _ h => h, fun b hb => ⟨?_, hb.2.1⟩, fun _ _ _ h => h, fun _ _ h => h, fun _ _ _ h => h⟩
    rcases hb.1 with h1 | h1 | h1
    · exact .inl (.inl h1)
    · exact .inl (.inr h1)
    · exact .inr h1
  have hr' : reps (baseCtx w fun b => ((E.B b ∨ E.K b) ∨ E.w.heap.size ≤ b) ∧ b < w.heap.size) args args' := ⟨hr.1, fun j d u hd hu => (cut_still (all_at hcut hd) (hr.2 j d u hd hu)).mono hle⟩
  have hM : ∀ k x, M k = some x → (baseCtx w fun b => ((E.B b ∨ E.K b) ∨ E.w.heap.size ≤ b) ∧ b < w.heap.size).ok k ∧ x.at (baseCtx w fun b => ((E.B b ∨ E.K b) ∨ E.w.heap.size ≤ b) ∧ b < w.heap.size) k := fun k x hx => by
    have hat := ar_at hs hid hx
    refine ⟨⟨?_, It.lt hat⟩, It.at_le hat (fun _ h => h) hle⟩
    rcases ((hs.heap.obj i _ hid).1 k (((hs.heap.obj i _ hid).2.1 k).2 ⟨x, hx⟩)).1 with h1 | h1
    · exact .inl (.inr h1)
    · exact .inr h1
  refine (hf.2 w _ args' (fun b hb => hb.2) (hconv _ _ hM hr')).mono fun e w' hh => ?_
  obtain ⟨d, v, h1, rfl, h3, h4⟩ := hh
  refine ⟨d, s, σ, τ, v, h d h1, rfl, below_state hs h3, h4.mono ⟨fun _ _ _ h => h, fun b hb => ?_, fun _ _ _ h => h.elim, fun _ _ h => h.elim, fun _ _ _ h => h.elim⟩, fun _ => h3.toBelow⟩
  exact ⟨.inr (.inr (Nat.le_trans hs.heap.kept.size hb.1)), hb.2, fun id ho => absurd (owned_lt hs.heap ho) (by have := hb.1; omega)⟩
theorem fp_at {C : Ctx} {M : Ar} {g : Nat} {el : TypeId} {l : List D} {v : Value} (hM : ∀ k x, M k = some x → C.ok k ∧ x.at C k) (hg : M g = some (.cells el l)) (hr : Rep C (.v (.pointer (some ⟨g, 0, none⟩))) v) : Rep C (.fp l) v := by
  have hr := rep_v hr
  subst hr
  obtain ⟨h1, c, h2, h3⟩ := hM g _ hg
  have hget : ∀ (j : Nat) d, l[j]? = some d → ∃ u, c[j]? = some u := fun j d hd => by
    have hj := (List.getElem?_eq_some_iff.1 hd).1
    exact ⟨_, Array.getElem?_eq_getElem (by rw [← Array.length_toList, h3.1]; exact hj)⟩
  refine .fp (fun j => (c[j]?).getD undef) h1 (fun j d hd => ?_) fun j d hd => ?_
  · obtain ⟨u, hu⟩ := hget j d hd
    simp [World.cell?, h2, hu]
  · obtain ⟨u, hu⟩ := hget j d hd
    rw [hu]
    exact h3.2 j d u hd (by rw [Array.getElem?_toList]; exact hu)
theorem rowsA_at {C : Ctx} {M : Ar} {row : Option (Nat × Nat)} {α : Type} {el e : Nat} {enc : α → List D} {L : List α} {rest : List Value} {v : Value} (hM : ∀ k x, M k = some x → C.ok k ∧ x.at C.still k) (hn : row = none → L = []) (hlen : ∀ (i : Nat) x, L[i]? = some x → (enc x).length = e)
    (hg : ∀ x, row = some x → M x.1 = some (.cells el (rowC enc L rest))) (hr : Rep C (.v (slV row L.length)) v) : Rep C (.rows α e enc L) v := by
  have hr := rep_v hr
  subst hr
  cases row with
  | none =>
    have := hn rfl
    subst this
    rw [slV_none]
    exact DLe.nil e enc _ _ .v
  | some x =>
    obtain ⟨g, c⟩ := x
    rw [slV_some]
    obtain ⟨h1, cc, h2, h3⟩ := hM g _ (hg _ rfl)
    have hfl := flat_len (L := L) hlen
    have hget : ∀ (i : Nat) x (j : Nat) d, L[i]? = some x → (enc x)[j]? = some d → ∃ u, cc[i * e + j]? = some u ∧ Rep C.still d u := fun i x j d hx hd => by
      have hj : j < e := by have := (List.getElem?_eq_some_iff.1 hd).1; rw [hlen i x hx] at this; exact this
      have hi : i < L.length := (List.getElem?_eq_some_iff.1 hx).1
      have hb : i * e + j < L.length * e := by
        have := Nat.mul_le_mul_right e (show i + 1 ≤ L.length from hi)
        rw [Nat.succ_mul] at this
        omega
      have hcl : cc.toList.length = (rowC enc L rest).length := h3.1
      have hrl : L.length * e ≤ (rowC enc L rest).length := by unfold rowC; rw [List.length_append, hfl]; omega
      obtain ⟨u, hu⟩ : ∃ u, cc.toList[i * e + j]? = some u := ⟨_, List.getElem?_eq_getElem (by omega)⟩
      refine ⟨u, by rw [← Array.getElem?_toList]; exact hu, h3.2 _ d u ?_ hu⟩
      unfold rowC
      rw [List.getElem?_append_left (by rw [hfl]; exact hb), flat_get hlen hx hj, hd]
    refine .rows g 0 (fun i j => (cc[i * e + j]?).getD undef) (by omega) (fun _ => ⟨rfl, h1⟩) hlen (fun i x j d hx hd => ?_) fun i x j d hx hd => ?_
    · obtain ⟨u, hu, _⟩ := hget i x j d hx hd
      have h2 : C.w.heap[g]? = some (.cells cc el (0, 0)) := h2
      rw [Nat.zero_add]
      simp [World.cell?, h2, hu]
    · obtain ⟨u, hu, hru⟩ := hget i x j d hx hd
      rw [hu]
      exact hru

def ArL (P : Program) (f : FuncId) (args : List D) (M : Ar) (Q : Value → Prop) : Prop :=
  hasBody P f ∧ ∀ (w : World) (B : Nat → Prop) (args' : List Value), (∀ k, B k → k < w.heap.size ∧ M k = none) → (∀ k x, M k = some x → x.at (baseCtx w B) k) → reps (baseCtx w B) args args' →
    Calls P f args'.toArray w fun e w' => ∃ v, Q v ∧ e = .returned v ∧ Under w.heap.size w w'
theorem CallVC.arL {g : Bool} {i : Nat} {S : Nat → Prop} {M : Ar} {f : FuncId} {args : List D} {Q : Value → Prop} (hf : ArL P f args M Q) (hid : lget s.H i = some (arL S M)) (hcut : args.all (cutOk 6 0) = true) (h : ∀ v, Q v → K (.v v) s) : CallVC P g f args s K := by
  refine ⟨hf.1, fun E σ τ a w args' hs hr => ?_⟩
  have hSM := (hs.heap.obj i _ hid).2.1
  refine (hf.2 w _ args' (fun k hk => ⟨hk.2.1, ?_⟩) (fun k x hx => ar_at hs hid hx) ⟨hr.1, fun j d u hd hu => cut_still (all_at hcut hd) (hr.2 j d u hd hu)⟩).mono fun e w' hh => ?_
  · cases hq : M k with
    | none => rfl
    | some x => exact absurd ((owned_ar hid).2 ((hSM k).2 ⟨x, hq⟩)) (hk.2.2 i)
  obtain ⟨v, h1, rfl, h3⟩ := hh
  exact ⟨.v v, s, σ, τ, v, h v h1, rfl, below_state hs h3, .v, fun _ => h3.toBelow⟩
end
end Go.Proofs.Ytfepckbhnghpeaa.V
