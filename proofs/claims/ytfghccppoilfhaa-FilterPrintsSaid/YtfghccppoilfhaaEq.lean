/-
  '==' on structs and arrays of integers, bools and strings: cell by cell. No condition but that both have their type's cells.
-/
import Derived.Test.YtfghccppoilfhaaFlat
import Derived.Laws.StructEq
namespace Go.Proofs.Ytfghccppoilfhaa
open Go.RowKit

def cellEq : Value → Value → Bool
  | .int _ a, .int _ b => a == b
  | .bool a, .bool b => a == b
  | .string a, .string b => a == b
  | _, _ => false

def pairOk (td : Option TypeDesc) (x y : Value) : Prop :=
  match td with
  | some (.int _) => ∃ k a b, x = .int k a ∧ y = .int k b
  | some .bool => ∃ a b, x = .bool a ∧ y = .bool b
  | some .string => ∃ a b, x = .string a ∧ y = .string b
  | _ => False

def fieldsTile (P : Program) (n : Nat) : List Field → Nat → Bool
  | [], off => decide (off = n)
  | f :: fs, off => decide (f.offset = off) && fieldsTile P n fs (off + P.cellsOf f.type)

def eqTree (P : Program) : Nat → TypeId → Bool
  | 0, _ => false
  | d + 1, t => (P.info? t).isSome && match P.underlying t with
    | some .bool | some (.int _) | some .string => decide (P.cellsOf t = 1)
    | some (.struct fs) => !P.stoodInHeld t && fieldsTile P (P.cellsOf t) fs.toList 0 && fs.toList.all fun f => decide (f.name ≠ "_") && eqTree P d f.type
    | some (.array n e) => decide (P.cellsOf t = n * P.cellsOf e) && eqTree P d e
    | _ => false

def isRowB (P : Program) (t : TypeId) : Bool := match P.underlying t with | some (.struct _) | some (.array _ _) => true | _ => false
def rowVal (P : Program) (t : TypeId) (xs : List Value) : Value := if isRowB P t then .agg xs.toArray else xs.headD undef
def eqCells (xs ys : List Value) : Bool := (xs.zip ys).all fun p => cellEq p.1 p.2

theorem eqCells_append {a b c d : List Value} (h : a.length = c.length) : eqCells (a ++ b) (c ++ d) = (eqCells a c && eqCells b d) := by
  unfold eqCells
  rw [List.zip_append h, List.all_append]

theorem eqCells_split (xs ys : List Value) (n : Nat) (h : xs.length = ys.length) : eqCells xs ys = (eqCells (xs.take n) (ys.take n) && eqCells (xs.drop n) (ys.drop n)) := by
  rw [← eqCells_append (by simp [h]), List.take_append_drop, List.take_append_drop]

section
variable {P : Program} (w : World)

theorem run_isAgg {t : TypeId} {td : TypeDesc} (h : P.underlying t = some td) : (isAgg t).run P w = .ok (isRowB P t) w := by
  unfold isAgg isRowB
  rw [Sem.run_bind, run_underlying h, h]
  cases td <;> simp

theorem run_sizeOf {t : TypeId} (h : (P.info? t).isSome = true) : (sizeOf t).run P w = .ok (P.cellsOf t) w := by
  obtain ⟨i, hi⟩ := Option.isSome_iff_exists.1 h
  simp [sizeOf, typeInfo, hi, Program.cellsOf]

theorem run_part {t : TypeId} {td : TypeDesc} (h : P.underlying t = some td) (hi : (P.info? t).isSome = true) (hs : isRowB P t = false → P.cellsOf t = 1) (xs : List Value) (off : Nat) (hl : off + P.cellsOf t ≤ xs.length) :
    (part t xs.toArray off).run P w = .ok (rowVal P t ((xs.drop off).take (P.cellsOf t))) w := by
  unfold part
  rw [Sem.run_bind, run_isAgg w h]
  simp only [Result.andThen_ok]
  cases hr : isRowB P t
  · have h1 := hs hr
    simp only [Bool.false_eq_true, if_false]
    have hx : xs.toArray[off]? = some xs[off] := by simp [List.getElem?_eq_getElem (show off < xs.length by omega)]
    rw [hx]
    simp only [Sem.run_pure, rowVal, hr, Bool.false_eq_true, if_false, h1]
    have hd : xs.drop off = xs[off] :: xs.drop (off + 1) := List.drop_eq_getElem_cons (by omega)
    rw [hd]
    rfl
  · simp only [if_true, Sem.run_bind, run_sizeOf w hi, Result.andThen_ok, Sem.run_pure, rowVal, hr]
    congr 2
    simp [List.take_drop]

theorem eqTree_info {d : Nat} {t : TypeId} (h : eqTree P d t = true) : (P.info? t).isSome = true ∧ (∃ td, P.underlying t = some td) ∧ (isRowB P t = false → P.cellsOf t = 1) := by
  cases d with
  | zero => simp [eqTree] at h
  | succ d =>
    simp only [eqTree, Bool.and_eq_true] at h
    refine ⟨h.1, ?_⟩
    unfold isRowB
    cases hu : P.underlying t with
    | none => simp [hu] at h
    | some td =>
      refine ⟨⟨td, rfl⟩, ?_⟩
      simp only [hu] at h
      cases td <;> simp_all

def cellTys (P : Program) : Nat → TypeId → List TypeId
  | 0, _ => []
  | d + 1, t => match P.underlying t with
    | some (.struct fs) => fs.toList.flatMap fun f => cellTys P d f.type
    | some (.array n e) => (List.replicate n (cellTys P d e)).flatten
    | _ => [t]

def pairsOk (P : Program) : List TypeId → List Value → List Value → Prop
  | [], [], [] => True
  | u :: us, x :: xs, y :: ys => pairOk (P.underlying u) x y ∧ pairsOk P us xs ys
  | _, _, _ => False

theorem pairsOk_len : ∀ (us : List TypeId) (xs ys : List Value), pairsOk P us xs ys → xs.length = us.length ∧ ys.length = us.length := by
  intro us
  induction us with
  | nil => intro xs ys h; cases xs <;> cases ys <;> simp_all [pairsOk]
  | cons u us ih =>
    intro xs ys h
    cases xs <;> cases ys <;> simp only [pairsOk] at h
    obtain ⟨_, h2⟩ := h
    have := ih _ _ h2
    simp [this]

theorem pairsOk_append : ∀ (us vs : List TypeId) (xs ys : List Value), pairsOk P (us ++ vs) xs ys →
    pairsOk P us (xs.take us.length) (ys.take us.length) ∧ pairsOk P vs (xs.drop us.length) (ys.drop us.length) := by
  intro us
  induction us with
  | nil => intro vs xs ys h; simpa [pairsOk] using h
  | cons u us ih =>
    intro vs xs ys h
    cases xs <;> cases ys <;> simp only [List.cons_append, pairsOk] at h
    obtain ⟨h1, h2⟩ := h
    have := ih _ _ _ h2
    simp only [List.length_cons, List.take_succ_cons, List.drop_succ_cons, pairsOk]
    exact ⟨⟨h1, this.1⟩, this.2⟩

theorem forIn_parts {d : Nat} {e : TypeId} {ftd : TypeDesc} (fu : P.underlying e = some ftd) (fi : (P.info? e).isSome = true) (f1 : isRowB P e = false → P.cellsOf e = 1) (tys : List TypeId) (hel : tys.length = P.cellsOf e)
    (hee : ∀ (xs ys : List Value), pairsOk P tys xs ys → (Op.equalIn d e (rowVal P e xs) (rowVal P e ys)).run P w = .ok (eqCells xs ys) w) (xs ys : List Value) :
    ∀ (m k : Nat), pairsOk P (List.replicate m tys).flatten (xs.drop (k * P.cellsOf e)) (ys.drop (k * P.cellsOf e)) →
      (forIn (List.range' k m) (none, ()) (fun i (_ : Option Bool × Unit) => do
        let a ← part e xs.toArray (i * P.cellsOf e)
        let b ← part e ys.toArray (i * P.cellsOf e)
        let r ← Op.equalIn d e a b
        if (!r) = true then pure (ForInStep.done (some false, ())) else pure (ForInStep.yield (none, ()))) : Sem (Option Bool × Unit)).run P w
        = .ok (if eqCells (xs.drop (k * P.cellsOf e)) (ys.drop (k * P.cellsOf e)) then none else some false, ()) w := by
  intro m
  induction m with
  | zero =>
    intro k h
    obtain ⟨l1, l2⟩ := pairsOk_len _ _ _ h
    simp only [List.replicate_zero, List.flatten_nil, List.length_nil] at l1 l2
    have e1 : xs.drop (k * P.cellsOf e) = [] := List.eq_nil_of_length_eq_zero l1
    rw [e1]
    simp [eqCells]
  | succ m ih =>
    intro k h
    rw [List.replicate_succ, List.flatten_cons] at h
    obtain ⟨h1, h2⟩ := pairsOk_append _ _ _ _ h
    rw [hel] at h1 h2
    rw [List.drop_drop, List.drop_drop] at h2
    obtain ⟨l1, l2⟩ := pairsOk_len _ _ _ h
    have leq := l1.trans l2.symm
    simp only [List.length_append, hel, List.length_drop] at l1 l2
    have ih' := ih (k + 1) (by rw [Nat.succ_mul]; exact h2)
    rw [Nat.succ_mul] at ih'
    simp only [List.range'_succ, List.forIn_cons, Sem.run_bind]
    have hc : 0 < P.cellsOf e ∨ P.cellsOf e = 0 := by omega
    have b1 : k * P.cellsOf e + P.cellsOf e ≤ xs.length := by
      rcases hc with hc | hc
      · omega
      · simp [hc]
    have b2 : k * P.cellsOf e + P.cellsOf e ≤ ys.length := by
      rcases hc with hc | hc
      · omega
      · simp [hc]
    rw [run_part w fu fi f1 xs _ b1]
    simp only [Result.andThen_ok]
    rw [run_part w fu fi f1 ys _ b2]
    simp only [Result.andThen_ok]
    rw [hee _ _ h1]
    simp only [Result.andThen_ok]
    rw [eqCells_split (xs.drop (k * P.cellsOf e)) (ys.drop (k * P.cellsOf e)) (P.cellsOf e) leq, List.drop_drop, List.drop_drop]
    cases hb : eqCells (List.take (P.cellsOf e) (List.drop (k * P.cellsOf e) xs)) (List.take (P.cellsOf e) (List.drop (k * P.cellsOf e) ys))
    · simp
    · simp only [Bool.not_true, Bool.false_eq_true, if_false, Sem.run_pure, Result.andThen_ok, Bool.true_and]
      exact ih'

theorem eq_flat (d : Nat) : ∀ (t : TypeId), eqTree P d t = true → (cellTys P d t).length = P.cellsOf t ∧ ∀ (fuel : Nat), d ≤ fuel → ∀ (xs ys : List Value),
    pairsOk P (cellTys P d t) xs ys → (Op.equalIn fuel t (rowVal P t xs) (rowVal P t ys)).run P w = .ok (eqCells xs ys) w := by
  induction d with
  | zero => intro t h; simp [eqTree] at h
  | succ d ih =>
    intro t ht
    obtain ⟨hinf, ⟨td, hu⟩, hone⟩ := eqTree_info ht
    simp only [eqTree, Bool.and_eq_true] at ht
    have ht2 := ht.2
    simp only [hu] at ht2
    cases td with
    | struct fs =>
      simp only [Bool.and_eq_true, List.all_eq_true, decide_eq_true_eq, Bool.not_eq_true'] at ht2
      obtain ⟨⟨hst, htile⟩, hall⟩ := ht2
      have hrow : isRowB P t = true := by unfold isRowB; rw [hu]
      have hfo : P.fieldsOf t = fs := by unfold Program.fieldsOf; rw [hu]
      have hct : cellTys P (d + 1) t = fs.toList.flatMap fun f => cellTys P d f.type := by rw [cellTys, hu]
      have hlen : ∀ (l : List Field) (off : Nat), (∀ f ∈ l, f ∈ fs.toList) → fieldsTile P (P.cellsOf t) l off = true → off + (l.flatMap fun f => cellTys P d f.type).length = P.cellsOf t := by
        intro l
        induction l with
        | nil => intro off _ h; simp only [fieldsTile, decide_eq_true_eq] at h; simpa using h
        | cons f l ihl =>
          intro off hm h
          simp only [fieldsTile, Bool.and_eq_true, decide_eq_true_eq] at h
          have h1 := (ih f.type (hall f (hm f (by simp))).2).1
          have h2 := ihl _ (fun g hg => hm g (by simp [hg])) h.2
          simp only [List.flatMap_cons, List.length_append, h1]
          omega
      have hl0 := hlen fs.toList 0 (fun _ h => h) htile
      refine ⟨by rw [hct]; simpa using hl0, ?_⟩
      intro fuel hf xs ys hp
      obtain ⟨fuel, rfl⟩ : ∃ m, fuel = m + 1 := ⟨fuel - 1, by omega⟩
      have hxy := pairsOk_len _ _ _ hp
      have hx : xs.length = P.cellsOf t := by rw [hxy.1, hct]; simpa using hl0
      have hy : ys.length = P.cellsOf t := by rw [hxy.2, hct]; simpa using hl0
      simp only [rowVal, hrow, if_true]
      rw [run_equalIn_struct w fuel t _ _ (by rw [hfo]; exact hu) hst, hfo]
      have step : ∀ (l : List Field) (off : Nat), (∀ f ∈ l, f ∈ fs.toList) → fieldsTile P (P.cellsOf t) l off = true →
          pairsOk P (l.flatMap fun f => cellTys P d f.type) (xs.drop off) (ys.drop off) →
          (Op.eqFields fuel xs.toArray ys.toArray l).run P w = .ok (eqCells (xs.drop off) (ys.drop off)) w := by
        intro l
        induction l with
        | nil =>
          intro off _ h2 _
          simp only [fieldsTile, decide_eq_true_eq] at h2
          simp [Op.eqFields, eqCells, h2, ← hx]
        | cons f l ihl =>
          intro off hmem h2 hc
          have hle := hlen (f :: l) off hmem h2
          simp only [fieldsTile, Bool.and_eq_true, decide_eq_true_eq] at h2
          obtain ⟨hfo', h2⟩ := h2
          have hfm := hmem f (by simp)
          obtain ⟨hnm, htr⟩ := hall f hfm
          obtain ⟨fi, ⟨ftd, fu⟩, f1⟩ := eqTree_info htr
          obtain ⟨hfl, hfe⟩ := ih f.type htr
          simp only [List.flatMap_cons, List.length_append, hfl] at hle
          simp only [List.flatMap_cons] at hc
          obtain ⟨hc1, hc2⟩ := pairsOk_append _ _ _ _ hc
          rw [hfl] at hc1 hc2
          rw [List.drop_drop, List.drop_drop] at hc2
          simp only [Op.eqFields, hnm, ne_eq, not_false_eq_true, if_true, Sem.run_bind]
          rw [run_part w fu fi f1 xs f.offset (by omega)]
          simp only [Result.andThen_ok]
          rw [run_part w fu fi f1 ys f.offset (by omega)]
          simp only [Result.andThen_ok]
          rw [hfo', hfe fuel (by omega) _ _ hc1]
          simp only [Result.andThen_ok]
          have ihl' := ihl (off + P.cellsOf f.type) (fun g hg => hmem g (by simp [hg])) h2 hc2
          rw [eqCells_split (xs.drop off) (ys.drop off) (P.cellsOf f.type) (by simp [hx, hy]), List.drop_drop, List.drop_drop]
          cases hb : eqCells (List.take (P.cellsOf f.type) (List.drop off xs)) (List.take (P.cellsOf f.type) (List.drop off ys))
          · simp
          · simp only [Bool.not_true, Bool.false_eq_true, if_false, Bool.true_and]
            exact ihl'
      have := step fs.toList 0 (fun _ h => h) htile (by rw [hct] at hp; simpa using hp)
      simpa using this
    | array n e =>
      simp only [Bool.and_eq_true, decide_eq_true_eq] at ht2
      obtain ⟨hn, hte⟩ := ht2
      have hrow : isRowB P t = true := by unfold isRowB; rw [hu]
      have hct : cellTys P (d + 1) t = (List.replicate n (cellTys P d e)).flatten := by rw [cellTys, hu]
      obtain ⟨hel, hee⟩ := ih e hte
      obtain ⟨fi, ⟨ftd, fu⟩, f1⟩ := eqTree_info hte
      refine ⟨by rw [hct]; simp [hel, hn], ?_⟩
      intro fuel hf xs ys hp
      obtain ⟨fuel, rfl⟩ : ∃ m, fuel = m + 1 := ⟨fuel - 1, by omega⟩
      simp only [rowVal, hrow, if_true]
      rw [Op.equalIn]
      simp only [Sem.run_bind, run_underlying hu, Result.andThen_ok, run_sizeOf w fi]
      have h := forIn_parts w fu fi f1 (cellTys P d e) hel (hee fuel (by omega)) xs ys n 0 (by rw [hct] at hp; simpa using hp)
      simp only [Nat.zero_mul, List.drop_zero] at h
      rw [Std.Legacy.Range.forIn_eq_forIn_range']
      simp only [Std.Legacy.Range.size, Nat.sub_zero, Nat.add_sub_cancel, Nat.div_one]
      rw [h]
      simp only [Result.andThen_ok]
      cases eqCells xs ys <;> simp
    | int k =>
      have hrow : isRowB P t = false := by unfold isRowB; rw [hu]
      have hct : cellTys P (d + 1) t = [t] := by rw [cellTys, hu]
      simp only [decide_eq_true_eq] at ht2
      refine ⟨by rw [hct, ht2]; rfl, ?_⟩
      intro fuel hf xs ys hp
      obtain ⟨fuel, rfl⟩ : ∃ m, fuel = m + 1 := ⟨fuel - 1, by omega⟩
      rw [hct] at hp
      obtain ⟨l1, l2⟩ := pairsOk_len _ _ _ hp
      obtain ⟨x, rfl⟩ := List.length_eq_one_iff.1 l1
      obtain ⟨y, rfl⟩ := List.length_eq_one_iff.1 l2
      · simp only [pairsOk, pairOk, hu, and_true] at hp
        obtain ⟨k', a, b, rfl, rfl⟩ := hp
        simp [rowVal, hrow, Op.equalIn, run_underlying hu, eqCells, cellEq]
    | bool =>
      have hrow : isRowB P t = false := by unfold isRowB; rw [hu]
      have hct : cellTys P (d + 1) t = [t] := by rw [cellTys, hu]
      simp only [decide_eq_true_eq] at ht2
      refine ⟨by rw [hct, ht2]; rfl, ?_⟩
      intro fuel hf xs ys hp
      obtain ⟨fuel, rfl⟩ : ∃ m, fuel = m + 1 := ⟨fuel - 1, by omega⟩
      rw [hct] at hp
      obtain ⟨l1, l2⟩ := pairsOk_len _ _ _ hp
      obtain ⟨x, rfl⟩ := List.length_eq_one_iff.1 l1
      obtain ⟨y, rfl⟩ := List.length_eq_one_iff.1 l2
      · simp only [pairsOk, pairOk, hu, and_true] at hp
        obtain ⟨a, b, rfl, rfl⟩ := hp
        simp [rowVal, hrow, Op.equalIn, run_underlying hu, eqCells, cellEq]
    | string =>
      have hrow : isRowB P t = false := by unfold isRowB; rw [hu]
      have hct : cellTys P (d + 1) t = [t] := by rw [cellTys, hu]
      simp only [decide_eq_true_eq] at ht2
      refine ⟨by rw [hct, ht2]; rfl, ?_⟩
      intro fuel hf xs ys hp
      obtain ⟨fuel, rfl⟩ : ∃ m, fuel = m + 1 := ⟨fuel - 1, by omega⟩
      rw [hct] at hp
      obtain ⟨l1, l2⟩ := pairsOk_len _ _ _ hp
      obtain ⟨x, rfl⟩ := List.length_eq_one_iff.1 l1
      obtain ⟨y, rfl⟩ := List.length_eq_one_iff.1 l2
      · simp only [pairsOk, pairOk, hu, and_true] at hp
        obtain ⟨a, b, rfl, rfl⟩ := hp
        simp [rowVal, hrow, Op.equalIn, run_underlying hu, eqCells, cellEq]
    | _ => simp at ht2

theorem run_eq_plain {d : Nat} {t : TypeId} (ht : eqTree P d t = true) (hr : isRowB P t = true) (hd : d ≤ 10000) (xs ys : List Value) (hp : pairsOk P (cellTys P d t) xs ys) :
    (Op.equalIn 10000 t (.agg xs.toArray) (.agg ys.toArray)).run P w = .ok (eqCells xs ys) w := by
  have := (eq_flat w d t ht).2 10000 hd xs ys hp
  simpa only [rowVal, hr, if_true] using this
end
end Go.Proofs.Ytfghccppoilfhaa
