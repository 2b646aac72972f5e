/-
  A law that answers true whatever its arguments are, as the run on abstract memory shows: the row's walk. Conditions: the same as of the run.
-/
import Derived.Test.YtcbpdjikdohegaaCeK
import Derived.Test.YtcbpdjikdohegaaLaw
namespace Go.Proofs.Ytcbpdjikdohegaa
open Go.ChangeShapes Go.WideShapes Go.ChangeAt Go.RowKit

/-- Stand-ins for a row of cells. -/
def tokens (s n : Nat) : List Value := (List.range' s n).map fun i => Value.float .f64 i

/-- A stand-in for an argument. -/
def tokenArg (P : Program) (t : TypeId) (s : Nat) : Value × Nat :=
  match P.underlying t with
  | some (.struct _) => (.agg (tokens s (P.cellsOf t)).toArray, s + P.cellsOf t)
  | some (.array _ _) => (.agg (tokens s (P.cellsOf t)).toArray, s + P.cellsOf t)
  | _ => (.float .f64 s, s + 1)

def tokenArgs (P : Program) : List TypeId → Nat → List Value
  | [], _ => []
  | t :: r, s => (tokenArg P t s).1 :: tokenArgs P r (tokenArg P t s).2

/-- What the stand-ins stand for. -/
def envOf (l : List Value) (i : Nat) : Value := match l[i]? with
  | some v => if v.oneCell' = true then v else .bool false
  | none => .bool false

theorem envOf_one (l : List Value) (i : Nat) : (envOf l i).oneCell' = true := by
  unfold envOf
  split
  · split
    · assumption
    · rfl
  · rfl

theorem envOf_at {l : List Value} {i : Nat} {v : Value} (h : l[i]? = some v) (h1 : v.oneCell' = true) : envOf l i = v := by
  unfold envOf; rw [h]; simp [h1]

theorem cell_one {P : Program} {w : World} {r : Reach} {base : Nat} {t : TypeId} {v : Value} (h : Cell.okWide P w r base t v) : v.oneCell' = true := by
  unfold Cell.okWide at h
  cases v with
  | agg c =>
    exfalso
    revert h
    cases P.underlying t with
    | none => simp [Cell.ok]
    | some d => cases d <;> simp [Cell.ok]
  | tuple c =>
    exfalso
    revert h
    cases P.underlying t with
    | none => simp [Cell.ok]
    | some d => cases d <;> simp [Cell.ok]
  | _ => rfl

def flatOf (vs : List Value) : List Value := vs.flatMap fun v => v.cells.toList

theorem tokenArg_rel {P : Program} {w : World} {r : Reach} {base : Nat} {t : TypeId} {v : Value} (h : Value.okWide P w r base t v) (ent : Nat → Option Ent) (pre post : List Value) :
    RelV ⟨ent, envOf (pre ++ v.cells.toList ++ post), envOf_one _⟩ (tokenArg P t pre.length).1 v ∧ (tokenArg P t pre.length).2 = pre.length + v.cells.size := by
  have agg : ∀ cs : Array Value, v = .agg cs → cs.size = P.cellsOf t → Row.okWide P w r base t cs →
      RelV ⟨ent, envOf (pre ++ v.cells.toList ++ post), envOf_one _⟩ (.agg (tokens pre.length (P.cellsOf t)).toArray) v ∧ pre.length + P.cellsOf t = pre.length + v.cells.size := by
    intro cs hv hs hr
    subst hv
    refine ⟨.agg (by simp [tokens, hs]) fun i x y hx hy => ?_, by simp [Value.cells, hs]⟩
    obtain ⟨ts, _, _, hcell⟩ := hr
    obtain ⟨u, _, hok⟩ := hcell i y hy
    have h1 := cell_one hok
    have hi : i < cs.size := (Array.getElem?_eq_some_iff.1 hy).1
    have hx' : x = .float .f64 (pre.length + i) := by
      simp only [tokens, List.getElem?_toArray, List.getElem?_map] at hx
      rw [List.getElem?_range' (by omega)] at hx
      simpa [eq_comm] using hx
    subst hx'
    have he : envOf (pre ++ (Value.agg cs).cells.toList ++ post) (pre.length + i) = y := by
      refine envOf_at ?_ h1
      rw [List.append_assoc, List.getElem?_append_right (by omega), Nat.add_sub_cancel_left, List.getElem?_append_left (by simp [Value.cells]; omega)]
      simpa [Value.cells] using hy
    have := RelV.token (σ := ⟨ent, envOf (pre ++ (Value.agg cs).cells.toList ++ post), envOf_one _⟩) (pre.length + i)
    simp only [he] at this
    exact this
  have one : Cell.okWide P w r base t v → RelV ⟨ent, envOf (pre ++ v.cells.toList ++ post), envOf_one _⟩ (.float .f64 pre.length) v ∧ pre.length + 1 = pre.length + v.cells.size := by
    intro hok
    have h1 := cell_one hok
    have hc : v.cells = #[v] := by
      unfold Value.cells
      split
      · simp [Value.oneCell'] at h1
      · rfl
    have he : envOf (pre ++ v.cells.toList ++ post) pre.length = v := envOf_at (by rw [hc]; simp) h1
    have := RelV.token (σ := ⟨ent, envOf (pre ++ v.cells.toList ++ post), envOf_one _⟩) pre.length
    simp only [he] at this
    exact ⟨this, by rw [hc]; rfl⟩
  unfold Value.okWide at h
  unfold tokenArg
  split at h
  · rename_i fs ht
    obtain ⟨cs, h1, h2, h3⟩ := h
    rw [ht]; exact agg cs h1 h2 h3
  · rename_i n e ht
    obtain ⟨cs, h1, h2, h3⟩ := h
    rw [ht]; exact agg cs h1 h2 h3
  · rename_i h1 h2
    cases hu : P.underlying t with
    | none => simp only; exact one h
    | some d => cases d <;> first | exact one h | exact absurd hu (h1 _) | exact absurd hu (h2 _ _)

theorem tokenArgs_rel {P : Program} {w : World} {r : Reach} {base : Nat} (ent : Nat → Option Ent) : ∀ (ts : List TypeId) (vs pre : List Value), ts.length = vs.length → (∀ (j : Nat) t v, ts[j]? = some t → vs[j]? = some v → Value.okWide P w r base t v) →
    RelL ⟨ent, envOf (pre ++ flatOf vs), envOf_one _⟩ (tokenArgs P ts pre.length) vs := by
  intro ts
  induction ts with
  | nil =>
    intro vs pre hl _
    have : vs = [] := List.eq_nil_of_length_eq_zero hl.symm
    subst this
    exact ⟨rfl, fun i v v' h _ => by simp [tokenArgs] at h⟩
  | cons t ts ih =>
    intro vs pre hl hv
    cases vs with
    | nil => cases hl
    | cons v vs =>
      have h0 := hv 0 t v rfl rfl
      have hih := ih vs (pre ++ v.cells.toList) (by simpa using hl) (fun j t' v' a b => hv (j + 1) t' v' (by simpa using a) (by simpa using b))
      obtain ⟨h1, h2⟩ := tokenArg_rel h0 ent pre (flatOf vs)
      have e1 : flatOf (v :: vs) = v.cells.toList ++ flatOf vs := by simp [flatOf]
      have e2 : (pre ++ v.cells.toList).length = (tokenArg P t pre.length).2 := by rw [h2]; simp
      rw [e2] at hih
      simp only [e1, ← List.append_assoc]
      refine ⟨?_, ?_⟩
      · simp only [tokenArgs, List.length_cons, hih.size]
      · intro i x y hx hy
        cases i with
        | zero =>
          simp only [tokenArgs, List.getElem?_cons_zero, Option.some.injEq] at hx hy
          subst hx hy
          exact h1
        | succ i =>
          simp only [tokenArgs, List.getElem?_cons_succ] at hx hy
          exact hih.each i x y hx hy

/-- Zero values: a row's own example. -/
def zeroArgs (P : Program) (fn : Func) : Array Value := fn.params.map fun t => match P.info? t with
  | some i => i.zero.getD undef
  | none => undef

theorem law_zeros : zerosOk Try.prog = true := by kernel_rfl
theorem law_calls : callsOk Try.prog = true := by kernel_rfl
theorem law_mixed : Try.prog.follows .mixedOrders = true := by kernel_rfl

set_option maxRecDepth 100000 in
/-- A function without arguments that comes to true. -/
theorem lives_of {f : FuncId} {steps d : Nat} (h : comesTrue Try.prog steps d f #[] = true) (w : World) : Calls Try.prog f #[] w fun e w' => e = .returned (.bool true) ∧ Below w.heap.size w w' :=
  comes_true law_zeros law_calls law_mixed steps d f h w (fun _ => .bool false) (fun _ => rfl) ⟨rfl, fun i v v' hv _ => by simp at hv⟩

set_option maxRecDepth 100000 in
/-- The walk of a law that answers true whatever its arguments are. -/
theorem token_walk {f : FuncId} {fn : Func} {steps d : Nat} (h : comesTrue Try.prog steps d f (tokenArgs Try.prog fn.params.toList 0).toArray = true) {H : Type} (enc : TypeId × Value → H) (W : World) (base : Nat) (args : Array Value) (ds : List (DataW H)) (p : List MemPlace)
    (hval : ∀ (j : Nat) t v, fn.params[j]? = some t → args[j]? = some v → Value.okWide Try.prog W .any base t v)
    (hA : DataW.TrodAll enc Try.prog W 0 (fun _ => true) true fn.params.toList args.toList ds p) : Calls Try.prog f args W fun e W' => e = .returned (.bool true) ∧ Below W.heap.size W W' := by
  have hlen : ∀ (ts : List TypeId) (vs : List Value) (ds : List (DataW H)) (ps : List MemPlace), DataW.TrodAll enc Try.prog W 0 (fun _ => true) true ts vs ds ps → ts.length = vs.length := by
    intro ts
    induction ts with
    | nil => intro vs ds ps h; obtain ⟨rfl, rfl, rfl⟩ := trodAll_nil h; rfl
    | cons t ts ih =>
      intro vs ds ps h
      obtain ⟨v, vs', d, ds', p, q, rfl, rfl, rfl, h1, h2⟩ := trodAll_cons h
      simp [ih _ _ _ h2]
  have hr := tokenArgs_rel (P := Try.prog) (w := W) (r := .any) (base := base) (fun _ => none) fn.params.toList args.toList [] (hlen _ _ _ _ hA) (fun j t v a b => hval j t v (by simpa using a) (by simpa using b))
  exact comes_true law_zeros law_calls law_mixed steps d f h W _ _ (by have := hr.toVs; simpa using this)

/-- The same, where some functions are asked for by name. -/
theorem asks_of {f : FuncId} {steps d : Nat} {orc : Oracle} (ho : OracleOk Try.prog (fun _ => True) orc) (h : asksTrue Try.prog orc steps d f #[] = true) (w : World) : Calls Try.prog f #[] w fun e w' => e = .returned (.bool true) ∧ Below w.heap.size w w' :=
  asks_true law_zeros law_calls law_mixed ho steps d f h w (fun _ => .bool false) (fun _ => rfl) trivial ⟨rfl, fun i v v' hv _ => by simp at hv⟩

set_option maxRecDepth 100000 in
theorem ask_walk {T : (Nat → Value) → Prop} {orc : Oracle} (ho : OracleOk Try.prog T orc) {f : FuncId} {fn : Func} {steps d : Nat} (h : asksTrue Try.prog orc steps d f (tokenArgs Try.prog fn.params.toList 0).toArray = true) {H : Type} (enc : TypeId × Value → H) (W : World) (base : Nat) (args : Array Value) (ds : List (DataW H)) (p : List MemPlace)
    (hval : ∀ (j : Nat) t v, fn.params[j]? = some t → args[j]? = some v → Value.okWide Try.prog W .any base t v)
    (hA : DataW.TrodAll enc Try.prog W 0 (fun _ => true) true fn.params.toList args.toList ds p) (hT : T (envOf (flatOf args.toList))) : Calls Try.prog f args W fun e W' => e = .returned (.bool true) ∧ Below W.heap.size W W' := by
  have hlen : ∀ (ts : List TypeId) (vs : List Value) (ds : List (DataW H)) (ps : List MemPlace), DataW.TrodAll enc Try.prog W 0 (fun _ => true) true ts vs ds ps → ts.length = vs.length := by
    intro ts
    induction ts with
    | nil => intro vs ds ps h; obtain ⟨rfl, rfl, rfl⟩ := trodAll_nil h; rfl
    | cons t ts ih =>
      intro vs ds ps h
      obtain ⟨v, vs', d, ds', p, q, rfl, rfl, rfl, h1, h2⟩ := trodAll_cons h
      simp [ih _ _ _ h2]
  have hr := tokenArgs_rel (P := Try.prog) (w := W) (r := .any) (base := base) (fun _ => none) fn.params.toList args.toList [] (hlen _ _ _ _ hA) (fun j t v a b => hval j t v (by simpa using a) (by simpa using b))
  exact asks_true law_zeros law_calls law_mixed ho steps d f h W _ (envOf_one _) (by simpa using hT) (by have := hr.toVs; simpa using this)

/-- A function that takes nothing and answers true is asked for by name. -/
def askLives (f : FuncId) : Oracle := fun g args => bif Nat.beq g f && Nat.beq args.size 0 then some (.bool true) else none
theorem askLives_ok {P : Program} {T : (Nat → Value) → Prop} {f : FuncId} (h : ∀ w, Calls P f #[] w fun e w' => e = .returned (.bool true) ∧ Below w.heap.size w w') : OracleOk P T (askLives f) := by
  intro g args v hv σ w args' _ hr
  unfold askLives at hv
  cases hc : (Nat.beq g f && Nat.beq args.size 0) with
  | false => rw [hc] at hv; cases hv
  | true =>
    rw [hc] at hv
    simp only [cond_true, Option.some.injEq] at hv
    subst hv
    simp only [Bool.and_eq_true] at hc
    have hg : g = f := Nat.eq_of_beq_eq_true hc.1
    have h0 : args.size = 0 := Nat.eq_of_beq_eq_true hc.2
    have h1 : args' = #[] := Array.eq_empty_of_size_eq_zero (by rw [← hr.size]; exact h0)
    subst hg h1
    exact (h w).mono fun e w' ⟨h2, h3⟩ => ⟨_, h2, h3, .bool true⟩

/-- One of two. -/
def orElse (a b : Oracle) : Oracle := fun f args => match a f args with
  | some v => some v
  | none => b f args
theorem orElse_ok {P : Program} {T : (Nat → Value) → Prop} {a b : Oracle} (ha : OracleOk P T a) (hb : OracleOk P T b) : OracleOk P T (orElse a b) := by
  intro f args v hv
  unfold orElse at hv
  split at hv
  · rename_i v' h1
    injection hv with hv; subst hv
    exact ha f args _ h1
  · exact hb f args v hv
end Go.Proofs.Ytcbpdjikdohegaa
