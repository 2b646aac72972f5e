/-
  The same, part 9: temporaries, regions, code, calls, run on abstract memory. Definitions, and what temporaries are. No condition.
-/
import Derived.Test.YtkcmeoeknlafeaaCeH
import Derived.Test.YtkcmeoeknlafeaaPlan
import Derived.LoopN
import Derived.Scope
import Derived.Tactics
namespace Go.Proofs.Ytkcmeoeknlafeaa
open Go.RowKit

/-! ### What is set is got -/
theorem Tr.get_set_lt {α : Type} (x : Option α) : ∀ (d : Nat) (t : Tr α) (i : Nat), i < 2 ^ d → (Tr.set x (d + 1) t i).get (d + 1) i = x := by
  intro d
  induction d with
  | zero =>
    intro t i h
    have hi : i = 0 := by simpa using h
    subst hi
    cases t <;> simp [Tr.set, Tr.get]
  | succ d ih =>
    intro t i h
    have h2 : i / 2 < 2 ^ d := by rw [Nat.pow_succ] at h; omega
    cases t with
    | nil =>
      unfold Tr.set
      by_cases hi : i = 0
      · simp [hi, Tr.get]
      · simp only [hi, if_false]
        split <;> rename_i hm <;> (rw [Tr.get]; simp only [hi, hm, if_false, if_true]; exact ih _ _ h2)
    | node v l r =>
      unfold Tr.set
      by_cases hi : i = 0
      · simp [hi, Tr.get]
      · simp only [hi, if_false]
        split <;> rename_i hm <;> (rw [Tr.get]; simp only [hi, hm, if_false, if_true]; exact ih _ _ h2)

/-- A slot's value. -/
def tget (t : Tr Value) (i : Nat) : Value := match t.get deep i with
  | some v => v
  | none => undef

def tset (t : Tr Value) (i : Nat) (v : Value) : Tr Value := Tr.set (some v) deep t i

theorem tget_set_same (t : Tr Value) (i : Nat) (v : Value) (h : i < 1000000) : tget (tset t i v) i = v := by
  unfold tget tset
  rw [Tr.get_set_lt (some v) 23 t i (by omega)]
theorem tget_set_other (t : Tr Value) (i j : Nat) (v : Value) (h : i ≠ j) : tget (tset t i v) j = tget t j := by
  unfold tget tset
  rw [Tr.get_set_ne _ _ _ _ _ h]

def aev (t : Tr Value) : Operand → Value
  | .tmp i => tget t i
  | .const v => v
  | .global g => .pointer (some ⟨g, 0, none⟩)
  | .func f => .func (.func f) #[] #[]

def aput (n : Nat) (t : Tr Value) (dst : Option Tmp) (v : Value) : Option (Tr Value) :=
  match dst with
  | none => some t
  | some d => if d < n then some (tset t d v) else none

/-- Is the operation wanted? (None: that is not known.) -/
def aYield (ops : Array Oper) (t : Tr Value) (o : Oper) : Option Bool :=
  match o.guard with
  | none => some true
  | some (j, b) => match (ops[j]?).bind (·.dst) with
    | some d => match tget t d with
      | .bool β => some (β == b)
      | .tuple _ => some false
      | _ => none
    | none => some false

/-- Does the operation come up alone? Calls, and what makes or writes memory, and a load by what such a one yields. -/
def soloKind (o : Oper) : Bool :=
  match o.op with
  | .alloc _ => true
  | .box _ _ => true
  | .buildSlice _ _ _ => true
  | .store _ _ _ => true
  | .makeSlice _ _ _ => true
  | .makeMap _ _ => true
  | .mapUpdate _ _ _ _ => true
  | .insert _ _ _ _ => true
  | .range _ _ => true
  | .next _ _ => true
  | .lookup _ _ _ _ => true
  | .call { callee := .builtin .len, .. } => false
  | .call { callee := .builtin .min, .. } => false
  | .call { callee := .builtin .max, .. } => false
  | .call _ => true
  | _ => false
def isLoad (o : Oper) : Bool := match o.op with
  | .load _ _ => true
  | _ => false
def isTmpIn (l : List Tmp) : Operand → Bool
  | .tmp t => l.contains t
  | _ => false

/-- An order in which a region may be gone through: what may come up whenever it likes first; of each whether it comes up alone. -/
def planFrom (ops : Array Oper) : Nat → Array Bool → List Tmp → List (Nat × Bool)
  | 0, _, _ => []
  | k + 1, listed, l =>
    let ready := Region.ready .any ops listed
    let hit (o : Oper) : Bool := o.op.operands.toList.any (isTmpIn l)
    let more (o : Oper) : List Tmp := match o.dst with | some d => d :: l | none => l
    match ready.find? (fun i => match ops[i]? with | some o => !(soloKind o || (isLoad o && hit o)) && Region.free .any ops listed i | none => false) with
    | some i => match ops[i]? with
      | some o => (i, false) :: planFrom ops k (listed.setIfInBounds i true) (if hit o then more o else l)
      | none => []
    | none => match ready with
      | [i] => match ops[i]? with
        | some o => (i, true) :: planFrom ops k (listed.setIfInBounds i true) (more o)
        | none => []
      | _ => []
def planOf (ops : Array Oper) : List (Nat × Bool) := planFrom ops ops.size (Array.replicate ops.size false) []
def drawnOk (ops : Array Oper) (plan : List (Nat × Bool)) : Bool := Region.noSelect ops && (decide (plan.length = ops.size) && planOk ops plan (Array.replicate ops.size false))

/-- What calls come to. -/
abbrev Callee1 := FuncId → Array Value → AM → Option (Value × AM)

/-- The operations of a region, in the text's order. -/
def evalOps (P : Program) (call : Callee1) (n : Nat) (ops : Array Oper) : List Oper → Tr Value → AM → Option (Tr Value × AM)
  | [], t, m => some (t, m)
  | o :: rest, t, m =>
    match aYield ops t o with
    | none => none
    | some false => match aput n t o.dst undef with
      | some t' => evalOps P call n ops rest t' m
      | none => none
    | some true => match stepOp P (aev t) o m with
      | none => none
      | some (.value v, m') => match aput n t o.dst v with
        | some t' => evalOps P call n ops rest t' m'
        | none => none
      | some (.skip, m') => match aput n t o.dst undef with
        | some t' => evalOps P call n ops rest t' m'
        | none => none
      | some (.enter f args, m') => match call f args m' with
        | some (v, m2) => match aput n t o.dst v with
          | some t' => evalOps P call n ops rest t' m2
          | none => none
        | none => none

/-- A range of cells that was read. -/
abbrev Seen := List (Nat × Nat × Nat)

/-- What the cells of a value are, read. -/
def ofCells (d : TypeDesc) (l : List Value) : Option Value :=
  match d, l with
  | .struct _, _ => some (.agg l.toArray)
  | .array _ _, _ => some (.agg l.toArray)
  | _, [v] => some v
  | _, _ => none

/-- A load that comes up whenever it likes: by the memory with which the region began; what it read. -/
def loadFirst (P : Program) (m0 : AM) (t : Tr Value) (o : Oper) : Option (Value × Seen) :=
  match o.op with
  | .load ty a => if okx a = true then match aev t a, P.info? ty, P.underlying ty with
    | .pointer (some p), some i, some d => if p.spot = none ∧ 0 < i.size then match absCells m0 p i.size with
      | some l => match ofCells d l with
        | some v => some (v, [(p.block, p.off, i.size)])
        | none => none
      | none => none else none
    | _, _, _ => none else none
  | _ => none

/-- A region that draws its order; m0: the memory with which it began. What comes of it: the memory behind each operation that comes up alone, and what was read. -/
def evalDrawn (P : Program) (call : Callee1) (n : Nat) (ops : Array Oper) (m0 : AM) : List (Nat × Bool) → Tr Value → AM → Option (Tr Value × AM × List AM × Seen)
  | [], t, m => some (t, m, [], [])
  | (i, solo) :: rest, t, m => match ops[i]? with
    | none => none
    | some o => match aYield ops t o with
      | none => none
      | some false => match aput n t o.dst undef with
        | some t' => evalDrawn P call n ops m0 rest t' m
        | none => none
      | some true => match solo with
        | true => match stepOp P (aev t) o m with
          | none => none
          | some (.value v, m') => match aput n t o.dst v with
            | some t' => match evalDrawn P call n ops m0 rest t' m' with
              | some (t2, m2, sn, rd) => some (t2, m2, m' :: sn, rd)
              | none => none
            | none => none
          | some (.skip, m') => match aput n t o.dst undef with
            | some t' => match evalDrawn P call n ops m0 rest t' m' with
              | some (t2, m2, sn, rd) => some (t2, m2, m' :: sn, rd)
              | none => none
            | none => none
          | some (.enter f args, m') => match call f args m' with
            | some (v, m1) => match aput n t o.dst v with
              | some t' => match evalDrawn P call n ops m0 rest t' m1 with
                | some (t2, m2, sn, rd) => some (t2, m2, m1 :: sn, rd)
                | none => none
              | none => none
            | none => none
        | false => match absStatic P (aev t) o with
          | some v => match aput n t o.dst v with
            | some t' => evalDrawn P call n ops m0 rest t' m
            | none => none
          | none => match loadFirst P m0 t o with
            | some (v, r) => match aput n t o.dst v with
              | some t' => match evalDrawn P call n ops m0 rest t' m with
                | some (t2, m2, sn, rd) => some (t2, m2, sn, r ++ rd)
                | none => none
              | none => none
            | none => none

/-- The same value, surely. -/
def sameD : Nat → Value → Value → Bool
  | 0, _, _ => false
  | _ + 1, .bool a, .bool b => a == b
  | _ + 1, .int j a, .int k b => decide (j = k) && a == b
  | _ + 1, .float j a, .float k b => decide (j = k) && a == b
  | _ + 1, .string a, .string b => decide (a.data = b.data)
  | _ + 1, .pointer a, .pointer b => decide (a = b)
  | _ + 1, .slice none l c, .slice none l' c' => l == l' && c == c'
  | _ + 1, .slice (some a) l c, .slice (some b) l' c' => a.block != somewhere && decide (a = b) && l == l' && c == c'
  | _ + 1, .map a, .map b => decide (a = b)
  | _ + 1, .nilFunc, .nilFunc => true
  | _ + 1, .nilIface, .nilIface => true
  | _ + 1, .func fn f c, .func gn g d => decide (fn = gn) && f.isEmpty && c.isEmpty && g.isEmpty && d.isEmpty
  | _, _, _ => false

/-- Each cell of the range is there and the same. -/
def sameRange (m0 m : AM) (b o : Nat) : Nat → Bool
  | 0 => true
  | k + 1 => (match m0.cell? ⟨b, o + k, none⟩, m.cell? ⟨b, o + k, none⟩ with
    | some u, some v => sameD 8 u v
    | _, _ => false) && sameRange m0 m b o k

def sameSeen (m0 m : AM) : Seen → Bool
  | [] => true
  | (b, o, k) :: r => sameRange m0 m b o k && sameSeen m0 m r
def sameAll (m0 : AM) (rd : Seen) : List AM → Bool
  | [] => true
  | m :: r => sameSeen m0 m rd && sameAll m0 rd r

inductive AExit where
  | normal
  | exit (id : Nat)
  | ret

def AExit.to : AExit → Exit
  | .normal => .normal
  | .exit i => .exit i
  | .ret => .ret

def evalCode (P : Program) (call : Callee1) (n : Nat) : Nat → Code → Tr Value → AM → Option (AExit × Tr Value × AM)
  | 0, _, _, _ => none
  | k + 1, c, t, m => match c with
    | .skip => some (.normal, t, m)
    | .label _ => some (.normal, t, m)
    | .ret => some (.ret, t, m)
    | .exit id => some (.exit id, t, m)
    | .seq a b => match evalCode P call n k a t m with
      | some (.normal, t', m') => evalCode P call n k b t' m'
      | r => r
    | .cond x a b => if okx x = true then match aev t x with
      | .bool true => evalCode P call n k a t m
      | .bool false => evalCode P call n k b t m
      | _ => none else none
    | .block id b => match evalCode P call n k b t m with
      | some (.exit j, t', m') => if j = id then some (.normal, t', m') else some (.exit j, t', m')
      | r => r
    | .loop b => match evalCode P call n k b t m with
      | some (.normal, t', m') => evalCode P call n k (.loop b) t' m'
      | r => r
    | .scope b => evalCode P call n k b t m
    | .region _ ops false => match evalOps P call n ops ops.toList t m with
      | some (t', m') => some (.normal, t', m')
      | none => none
    | .region _ ops true => if drawnOk ops (planOf ops) = true then match evalDrawn P call n ops m (planOf ops) t m with
      | some (t', m', sn, rd) => if sameAll m rd sn = true then some (.normal, t', m') else none
      | none => none else none
    | _ => none

def initT : List Value → Nat → Tr Value → Tr Value
  | [], _, t => t
  | v :: r, i, t => initT r (i + 1) (tset t i v)

def aresults (P : Program) : List ResultVar → Tr Value → AM → Option (List Value)
  | [], _, _ => some []
  | .tmp i :: r, t, m => match aresults P r t m with
    | some l => some (tget t i :: l)
    | none => none
  | .cell a ty :: r, t, m => match tget t a with
    | .pointer (some p) => match arun P (Go.loadVar ty p) m, aresults P r t m with
      | some (v, m'), some l => if m'.tick = m.tick then some (v :: l) else none
      | _, _ => none
    | _ => none

def oneOf : List Value → Value
  | [v] => v
  | l => .tuple l.toArray

/-- A call, d deep, each function with so many steps. -/
def evalCall (P : Program) (steps : Nat) : Nat → Callee1
  | 0, _, _, _ => none
  | d + 1, f, args, m => match P.funcs[f]? with
    | some fn => match fn.body with
      | some c => if args.size ≤ fn.ntmps ∧ fn.ntmps ≤ 1000000 then
          match evalCode P (evalCall P steps d) fn.ntmps steps c (initT args.toList 0 .nil) m with
          | some (.normal, t, m') => match aresults P fn.results.toList t m' with
            | some l => some (oneOf l, m')
            | none => none
          | some (.ret, t, m') => match aresults P fn.results.toList t m' with
            | some l => some (oneOf l, m')
            | none => none
          | _ => none
        else none
      | none => none
    | none => none
end Go.Proofs.Ytkcmeoeknlafeaa
