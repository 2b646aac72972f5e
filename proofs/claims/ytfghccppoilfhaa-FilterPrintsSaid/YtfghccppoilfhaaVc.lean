/-
  What pure operations yield on symbolic data, and that they yield it in a world. Condition: the table of types says what the program's says.
-/
import Derived.Test.YtfghccppoilfhaaVb
import Derived.WalkLawsBesides
import Derived.Deep.MidRow
namespace Go.Proofs.Ytfghccppoilfhaa.V
open Go.RowKit

section
variable {P : Program} {tt : TT}

theorem tfind_view (h : ttOk P tt) {t : Nat} {ti : TI} (hf : tfind tt t = some ti) : viewOf P t = some ti := by
  unfold ttOk at h
  induction tt with
  | nil => cases hf
  | cons x r ih =>
    obtain ⟨k, y⟩ := x
    simp only [List.map_cons, List.cons.injEq] at h
    simp only [tfind] at hf
    split at hf
    · rename_i hb
      injection hf with hf; subst hf
      have := Nat.eq_of_beq_eq_true hb
      subst this
      exact h.1
    · exact ih h.2 hf

theorem view_spec {t : Nat} {ti : TI} (h : viewOf P t = some ti) : ∃ d i z, P.underlying t = some d ∧ P.info? t = some i ∧ i.zero = some z ∧ udOf d = ti.ud ∧ i.size = ti.size ∧ i.bytes = ti.bytes ∧ z.cells.toList = ti.zero := by
  unfold viewOf at h
  split at h
  · rename_i d i h1 h2
    split at h
    · rename_i z hz
      injection h with h; subst h
      exact ⟨d, i, z, h1, h2, hz, rfl, rfl, rfl, rfl⟩
    · cases h
  · cases h

theorem ud_slice {d : TypeDesc} {e : TypeId} (h : udOf d = .slice e) : d = .slice e := by cases d <;> simp [udOf] at h; rw [h]
theorem ud_array {d : TypeDesc} {n : Nat} {e : TypeId} (h : udOf d = .array n e) : d = .array n e := by cases d <;> simp [udOf] at h; obtain ⟨rfl, rfl⟩ := h; rfl
theorem ud_struct {d : TypeDesc} {fs : List (Nat × TypeId)} (h : udOf d = .struct fs) : ∃ f, d = .struct f ∧ f.toList.map (fun f => (f.offset, f.type)) = fs := by cases d <;> simp [udOf] at h; exact ⟨_, rfl, h⟩
theorem ud_int {d : TypeDesc} {k : IntKind} (h : udOf d = .int k) : d = .int k := by cases d <;> simp [udOf] at h; rw [h]
theorem ud_map {d : TypeDesc} {k e : TypeId} (h : udOf d = .map k e) : d = .map k e := by cases d <;> simp [udOf] at h; rw [h.1, h.2]
theorem ud_str {d : TypeDesc} (h : udOf d = .str) : d = .string := by cases d <;> simp [udOf] at h; rfl
theorem ud_bool {d : TypeDesc} (h : udOf d = .bool) : d = .bool := by cases d <;> simp [udOf] at h; rfl
theorem ud_row {d : TypeDesc} : (udOf d).isRow = d.isRow := by cases d <;> rfl

theorem run_und {t : TypeId} {d : TypeDesc} (h : P.underlying t = some d) (w : World) : (underlying t).run P w = .ok d w := run_underlying h w
theorem run_size {t : TypeId} {i : TypeInfo} (h : P.info? t = some i) (w : World) : (Go.sizeOf t).run P w = .ok i.size w := by simp [Go.sizeOf, typeInfo, h]

variable {C : Ctx}

theorem rep_v {v u : Value} (h : Rep C (.v v) u) : u = v := by cases h; rfl
theorem rep_agg {l : List D} {u : Value} (h : Rep C (.agg l) u) : ∃ c, u = .agg c ∧ c.size = l.length ∧ ∀ (j : Nat) d u, l[j]? = some d → c[j]? = some u → Rep C d u := by cases h with | agg hs h => exact ⟨_, rfl, hs, h⟩

/-! ### Numbers -/
theorem intBin_run {op : BinOp} {k : IntKind} {a b : Int} {K : Value → Prop} (h : intBin op k a b K) (hs : isShift op = false) (t : TypeId) (x y : Operand) :
    ∃ v, K v ∧ ∀ w, (do eqGuard op t x y (.int k a) (.int k b); binOp op t (.int k a) (.int k b) : Sem Value).run P w = .ok v w := by
  cases op <;> simp only [intBin, isShift] at h hs <;> first
    | (refine ⟨_, h, fun w => ?_⟩; simp [eqGuard, binOp, Op.intArith, Op.intBits, Op.intCmp]; done)
    | (refine ⟨_, h, fun w => ?_⟩; simp [eqGuard, binOp, Op.intCmp]; rfl)
    | (refine ⟨_, h.2, fun w => ?_⟩; simp [eqGuard, binOp, Op.intDiv, h.1]; done)
    | (cases h; done)
    | (cases hs; done)

theorem intShift_run {op : BinOp} {k k' : IntKind} {a b : Int} {K : Value → Prop} (h : intShift op k a b K) (t : TypeId) (x y : Operand) :
    ∃ v, K v ∧ ∀ w, (do eqGuard op t x y (.int k a) (.int k' b); binOp op t (.int k a) (.int k' b) : Sem Value).run P w = .ok v w := by
  cases op <;> simp only [intShift] at h <;> first
    | (cases h; done)
    | (exact ⟨_, h.2, fun w => by simp [eqGuard, binOp, Op.shift, show ¬ b < 0 by omega]⟩)

theorem strBin_run {op : BinOp} {a b : ByteArray} {K : Value → Prop} (h : strBin op a b K) (t : TypeId) (x y : Operand) :
    ∃ v, K v ∧ ∀ w, (do eqGuard op t x y (.string a) (.string b); binOp op t (.string a) (.string b) : Sem Value).run P w = .ok v w := by
  cases op <;> simp only [strBin] at h <;> first
    | (cases h; done)
    | (exact ⟨_, h, fun w => by simp [eqGuard, binOp, Op.stringOp]⟩)
    | (refine ⟨_, h.2, fun w => ?_⟩
       have h1 : ¬ (((a.size + b.size : Nat) : Int) > IntKind.i64.max) := by
         have : IntKind.i64.max = 9223372036854775807 := by decide
         rw [this]; omega
       simp only [eqGuard, binOp, Op.stringOp, if_neg h1]
       simp)

theorem equal_bool {a b : Bool} {t : TypeId} (ht : P.underlying t = some .bool) (w : World) : (Op.equal t (.bool a) (.bool b)).run P w = .ok (a == b) w := by
  unfold Op.equal Op.maxDepth
  show (Op.equalIn (9999 + 1) t (.bool a) (.bool b)).run P w = _
  rw [Op.equalIn]
  simp [run_und ht]

theorem boolBin_run {op : BinOp} {a b : Bool} {K : Value → Prop} {t : TypeId} (ht : P.underlying t = some .bool) (h : boolBin op a b K) (x y : Operand) :
    ∃ v, K v ∧ ∀ w, (do eqGuard op t x y (.bool a) (.bool b); binOp op t (.bool a) (.bool b) : Sem Value).run P w = .ok v w := by
  cases op <;> simp only [boolBin] at h <;> first
    | (cases h; done)
    | (refine ⟨_, h, fun w => ?_⟩; simp [eqGuard, binOp, equal_bool ht]; done)

theorem eqCells_cons (x y : Value) (xs ys : List Value) : eqCells (x :: xs) (y :: ys) = (cellEq x y && eqCells xs ys) := by simp [eqCells]

theorem eq_cells : ∀ (us : List TypeId) (a b : List D) (xs ys : List Value), us.map (fun u => kindT (P.underlying u)) = a.map kindD → pairsB a b = true →
    xs.length = a.length → (∀ (j : Nat) d u, a[j]? = some d → xs[j]? = some u → Rep C d u) → ys.length = b.length → (∀ (j : Nat) d u, b[j]? = some d → ys[j]? = some u → Rep C d u) → pairsOk P us xs ys ∧ eqCells xs ys = eqD a b
  | [], [], [], [], [], _, _, _, _, _, _ => ⟨trivial, rfl⟩
  | u :: us, x :: a, y :: b, v :: xs, w :: ys, hk, hp, hx, rx, hy, ry => by
    simp only [List.map_cons, List.cons.injEq] at hk
    simp only [pairsB] at hp
    split at hp
    · rename_i h1
      obtain ⟨g1, g2⟩ := eq_cells us a b xs ys hk.2 hp (by simpa using hx) (fun j d u a b => rx (j + 1) d u (by simpa using a) (by simpa using b)) (by simpa using hy) (fun j d u a b => ry (j + 1) d u (by simpa using a) (by simpa using b))
      have r1 := rx 0 x v rfl rfl
      have r2 := ry 0 y w rfl rfl
      unfold pairD at h1
      split at h1
      · have e1 := rep_v r1; have e2 := rep_v r2
        subst e1 e2
        have hkk := of_decide_eq_true h1
        subst hkk
        refine ⟨⟨?_, g1⟩, ?_⟩
        · have h3 := hk.1
          unfold pairOk
          unfold kindT kindD at h3
          split at h3
          · rename_i hu; rw [hu]; exact ⟨_, _, _, rfl, rfl⟩
          all_goals cases h3
        · rw [eqCells_cons, g2]; rfl
      · have e1 := rep_v r1; have e2 := rep_v r2
        subst e1 e2
        refine ⟨⟨?_, g1⟩, ?_⟩
        · have h3 := hk.1
          unfold pairOk
          unfold kindT kindD at h3
          split at h3
          · cases h3
          · rename_i hu; rw [hu]; exact ⟨_, _, rfl, rfl⟩
          all_goals cases h3
        · rw [eqCells_cons, g2]; rfl
      · have e1 := rep_v r1; have e2 := rep_v r2
        subst e1 e2
        refine ⟨⟨?_, g1⟩, ?_⟩
        · have h3 := hk.1
          unfold pairOk
          unfold kindT kindD at h3
          split at h3
          · cases h3
          · cases h3
          · rename_i hu; rw [hu]; exact ⟨_, _, rfl, rfl⟩
          all_goals cases h3
        · rw [eqCells_cons, g2]; rfl
      · cases h1
    · cases hp
  | [], _ :: _, _, _, _, hk, _, _, _, _, _ => by cases hk
  | _ :: _, [], _, _, _, hk, _, _, _, _, _ => by cases hk
  | [], [], _ :: _, _, _, _, hp, _, _, _, _ => by cases hp
  | _ :: _, _ :: _, [], _, _, _, hp, _, _, _, _ => by cases hp
  | [], [], [], _ :: _, _, _, _, hx, _, _, _ => by cases hx
  | [], [], [], [], _ :: _, _, _, _, _, hy, _ => by cases hy
  | _ :: _, _ :: _, _ :: _, [], _, _, _, hx, _, _, _ => by cases hx
  | _ :: _, _ :: _, _ :: _, _ :: _, [], _, _, _, _, hy, _ => by cases hy

theorem ud_ptr {d : TypeDesc} (h : udOf d = .ptr) : ∃ e, d = .pointer e := by cases d <;> simp [udOf] at h; exact ⟨_, rfl⟩
theorem ptr_eq {t : TypeId} {ti : TI} (a : Option Addr) (htt : ttOk P tt) (ht : tfind tt t = some ti) (hti : ti.ud = .ptr) (w : World) : (Op.equal t (.pointer a) (.pointer none)).run P w = .ok a.isNone w := by
  obtain ⟨d, i, z, g1, _, _, g4, _⟩ := view_spec (tfind_view htt ht)
  rw [hti] at g4
  obtain ⟨e, rfl⟩ := ud_ptr g4
  unfold Op.equal Op.maxDepth
  show (Op.equalIn (9999 + 1) t _ _).run P w = _
  rw [Op.equalIn]
  cases a <;> simp [run_und g1]

theorem binD_run (htt : ttOk P tt) (hsane : C.Sane) {op : BinOp} {t : TypeId} {dx dy : D} {K : D → Prop} {vx vy : Value} (h : binD P tt op t dx dy K) (hx : Rep C dx vx) (hy : Rep C dy vy) (x y : Operand) :
    ∃ d v, K d ∧ Rep C d v ∧ ∀ w, (do eqGuard op t x y vx vy; binOp op t vx vy : Sem Value).run P w = .ok v w := by
  unfold binD at h
  split at h
  · rename_i k a k' b
    have e1 := rep_v hx; have e2 := rep_v hy
    subst e1 e2
    split at h
    · obtain ⟨v, h1, h2⟩ := intShift_run (P := P) (k' := k') h t x y
      exact ⟨_, v, h1, .v, h2⟩
    · rename_i hs
      split at h
      · rename_i hk
        have hk : k = k' := of_decide_eq_true hk
        subst hk
        obtain ⟨v, h1, h2⟩ := intBin_run (P := P) h hs t x y
        exact ⟨_, v, h1, .v, h2⟩
      · cases h
  · have e1 := rep_v hx; have e2 := rep_v hy
    subst e1 e2
    obtain ⟨v, h1, h2⟩ := strBin_run (P := P) h t x y
    exact ⟨_, v, h1, .v, h2⟩
  · have e1 := rep_v hx; have e2 := rep_v hy
    subst e1 e2
    split at h
    · rename_i ht
      obtain ⟨d, i, z, g1, _, _, g4, _⟩ := view_spec (tfind_view htt ht)
      have := ud_bool g4
      subst this
      obtain ⟨v, h1, h2⟩ := boolBin_run (P := P) g1 h x y
      exact ⟨_, v, h1, .v, h2⟩
    · cases h
  · rename_i α e enc L
    split at h
    · rename_i el _ _ _ ht
      obtain ⟨de, i, z, g1, _, _, g4, _⟩ := view_spec (tfind_view htt ht)
      have := ud_slice g4
      subst this
      have e2 := rep_v hy
      subst e2
      cases hx with
      | rows b o g hc hq hl hcell hrep =>
        rename_i p c
        have hrun : ∀ w, (Op.equal t (.slice p L.length c) (.slice none 0 0)).run P w = .ok p.isNone w := fun w => by
          unfold Op.equal Op.maxDepth
          show (Op.equalIn (9999 + 1) t _ _).run P w = _
          rw [Op.equalIn]
          cases p <;> simp [run_und g1]
        have h := h p.isNone (fun hn => by
          cases L with
          | nil => rfl
          | cons x r =>
            have := (hq (by simp)).1
            rw [this] at hn; cases hn)
        split at h
        · exact ⟨_, _, h, .v, fun w => by simp [eqGuard, binOp, hrun]⟩
        · exact ⟨_, _, h, .v, fun w => by simp [eqGuard, binOp, hrun]⟩
        · cases h
    · cases h
  · split at h
    · rename_i el _ _ _ ht
      obtain ⟨de, i, z, g1, _, _, g4, _⟩ := view_spec (tfind_view htt ht)
      have := ud_slice g4
      subst this
      have e1 := rep_v hx; have e2 := rep_v hy
      subst e1 e2
      have hrun : ∀ w, (Op.equal t (.slice none 0 0) (.slice none 0 0)).run P w = .ok true w := fun w => by
        unfold Op.equal Op.maxDepth
        show (Op.equalIn (9999 + 1) t _ _).run P w = _
        rw [Op.equalIn]
        simp [run_und g1]
      split at h
      · exact ⟨_, _, h, .v, fun w => by simp [eqGuard, binOp, hrun]⟩
      · exact ⟨_, _, h, .v, fun w => by simp [eqGuard, binOp, hrun]⟩
      · cases h
    · cases h
  · split at h
    · rename_i ht
      have e2 := rep_v hy
      subst e2
      cases hx with
      | loc hl =>
        obtain ⟨a, rfl⟩ := hsane.loc _ _ _ hl
        have hq := ptr_eq (P := P) (some a) htt ht rfl
        have hq' : ∀ w, (Op.equal t (.pointer (some a)) (.pointer none)).run P w = .ok false w := hq
        split at h
        · exact ⟨_, _, h, .v, fun w => by simp [eqGuard, binOp, hq']⟩
        · exact ⟨_, _, h, .v, fun w => by simp [eqGuard, binOp, hq']⟩
        · cases h
    · cases h
  · split at h
    · rename_i ht
      have e2 := rep_v hy
      subst e2
      cases hx with
      | fp g hk hcell hrep =>
        rename_i b o
        have hq := ptr_eq (P := P) (some ⟨b, o, none⟩) htt ht rfl
        have hq' : ∀ w, (Op.equal t (.pointer (some ⟨b, o, none⟩)) (.pointer none)).run P w = .ok false w := hq
        split at h
        · exact ⟨_, _, h, .v, fun w => by simp [eqGuard, binOp, hq']⟩
        · exact ⟨_, _, h, .v, fun w => by simp [eqGuard, binOp, hq']⟩
        · cases h
    · cases h
  · split at h
    · rename_i ht
      have e2 := rep_v hy
      subst e2
      cases hx with
      | sp S hA hS =>
        rename_i b
        have hq := ptr_eq (P := P) (some ⟨b, 0, none⟩) htt ht rfl
        have hq' : ∀ w, (Op.equal t (.pointer (some ⟨b, 0, none⟩)) (.pointer none)).run P w = .ok false w := hq
        split at h
        · exact ⟨_, _, h, .v, fun w => by simp [eqGuard, binOp, hq']⟩
        · exact ⟨_, _, h, .v, fun w => by simp [eqGuard, binOp, hq']⟩
        · cases h
    · cases h
  · split at h
    · rename_i ht
      have e1 := rep_v hx; have e2 := rep_v hy
      subst e1 e2
      have hq := ptr_eq (P := P) none htt ht rfl
      have hq' : ∀ w, (Op.equal t (.pointer none) (.pointer none)).run P w = .ok true w := hq
      split at h
      · exact ⟨_, _, h, .v, fun w => by simp [eqGuard, binOp, hq']⟩
      · exact ⟨_, _, h, .v, fun w => by simp [eqGuard, binOp, hq']⟩
      · cases h
    · cases h
  · rename_i a b
    obtain ⟨he, hp, h⟩ := h
    simp only [eqOk, Bool.and_eq_true, Bool.not_eq_true', decide_eq_true_eq] at he
    obtain ⟨⟨⟨h1, h2⟩, h3⟩, h4⟩ := he
    cases hx with
    | agg sx rx =>
      cases hy with
      | agg sy ry =>
        rename_i cx cy
        obtain ⟨g1, g2⟩ := eq_cells (P := P) (C := C) (cellTys P 4 t) a b cx.toList cy.toList h4 hp (by simpa using sx) (fun j d u p q => rx j d u p (by simpa using q)) (by simpa using sy) (fun j d u p q => ry j d u p (by simpa using q))
        have hrun : ∀ w, (Op.equal t (.agg cx) (.agg cy)).run P w = .ok (eqD a b) w := fun w => by
          have := run_eq_plain w h1 h2 (by omega) cx.toList cy.toList g1
          rw [g2] at this
          exact this
        split at h
        · exact ⟨_, _, h, .v, fun w => by simp [eqGuard, binOp, h3, hrun]⟩
        · exact ⟨_, _, h, .v, fun w => by simp [eqGuard, binOp, h3, hrun]⟩
        · cases h
  · cases h

theorem unD_run {op : UnOp} {dx : D} {K : D → Prop} {vx : Value} (h : unD op dx K) (hx : Rep C dx vx) : ∃ d v, K d ∧ Rep C d v ∧ ∀ w, (Op.unary op vx).run P w = .ok v w := by
  unfold unD at h
  split at h
  · have e1 := rep_v hx; subst e1
    exact ⟨_, _, h, .v, fun w => by simp [Op.unary]⟩
  · have e1 := rep_v hx; subst e1
    exact ⟨_, _, h, .v, fun w => by simp [Op.unary, Op.intArith]⟩
  · have e1 := rep_v hx; subst e1
    exact ⟨_, _, h, .v, fun w => by simp [Op.unary, Op.intBits]⟩
  · cases h

theorem convD_run (htt : ttOk P tt) {src dst : TypeId} {dx : D} {K : D → Prop} {vx : Value} (h : convD tt src dst dx K) (hx : Rep C dx vx) : ∃ d v, K d ∧ Rep C d v ∧ ∀ w, (convert src dst vx).run P w = .ok v w := by
  unfold convD at h
  split at h
  · rename_i k1 k2 n h1 h2
    have e1 := rep_v hx; subst e1
    obtain ⟨d, i, z, g1, _, _, g4, _⟩ := view_spec (tfind_view htt h1)
    have := ud_int g4; subst this
    obtain ⟨d, i, z, k1, _, _, k4, _⟩ := view_spec (tfind_view htt h2)
    have := ud_int k4; subst this
    exact ⟨_, _, h, .v, fun w => by simp [convert, run_und g1, run_und k1, Conv.intToInt]⟩
  · rename_i s h1 h2
    have e1 := rep_v hx; subst e1
    obtain ⟨d, i, z, g1, _, _, g4, _⟩ := view_spec (tfind_view htt h1)
    have := ud_str g4; subst this
    obtain ⟨d, i, z, k1, _, _, k4, _⟩ := view_spec (tfind_view htt h2)
    have := ud_str k4; subst this
    exact ⟨_, _, h, .v, fun w => by simp [convert, run_und g1, run_und k1]⟩
  · cases h

theorem minmaxD_run {mn : Bool} {dx dy : D} {K : D → Prop} {vx vy : Value} (h : minmaxD mn dx dy K) (hx : Rep C dx vx) (hy : Rep C dy vy) (ts : Array TypeId) (ty : TypeId) :
    ∃ d v, K d ∧ Rep C d v ∧ ∀ w, (if mn then Builtin.min_ ts ty #[vx, vy] else Builtin.max_ ts ty #[vx, vy]).run P w = .ok v w := by
  unfold minmaxD at h
  split at h
  · rename_i k a k' b
    have e1 := rep_v hx; have e2 := rep_v hy
    subst e1 e2
    split at h
    · rename_i hk
      have hk : k = k' := of_decide_eq_true hk
      subst hk
      cases mn
      · refine ⟨_, _, h, .v, fun w => ?_⟩
        simp only [Builtin.max_, List.foldlM, Bool.false_eq_true, if_false]
        simp only [Builtin.max2, Sem.run_bind, Sem.run_pure, Result.andThen_ok]
        congr 2
        simp only [Int.max_def]
        split <;> split <;> omega
      · refine ⟨_, _, h, .v, fun w => ?_⟩
        simp only [Builtin.min_, List.foldlM, if_true]
        simp only [Builtin.min2, Sem.run_bind, Sem.run_pure, Result.andThen_ok]
        congr 2
        simp only [Int.min_def]
        split <;> split <;> omega
    · cases h
  · cases h
end
end Go.Proofs.Ytfghccppoilfhaa.V
