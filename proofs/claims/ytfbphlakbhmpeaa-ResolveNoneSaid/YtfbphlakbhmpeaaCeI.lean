/-
  The same, part 9: temporaries, regions, code, calls, run on abstract memory. Definitions, and what temporaries are. No condition.
-/
import Derived.Test.YtfbphlakbhmpeaaCeN
import Derived.LoopN
import Derived.Scope
import Derived.Tactics
namespace Go.Proofs.Ytfbphlakbhmpeaa
open Go.RowKit

/-! ### What is set is got -/
theorem Tr.get_set_lt {α : Type} (x : Option α) : ∀ (d : Nat) (t : Tr α) (i : Nat), i < 2 ^ d → (Tr.set x (d + 1) t i).get (d + 1) i = x := by
  intro d
  induction d with
  | zero =>
    intro t i h
    have hi : i = 0 := by simpa using h
    subst hi
    cases t <;> simp [Tr.set, Tr.get]
  | succ d ih =>
    intro t i h
    have h2 : i / 2 < 2 ^ d := by rw [Nat.pow_succ] at h; omega
    cases t with
    | nil =>
      unfold Tr.set
      by_cases hi : i = 0
      · simp [hi, Tr.get]
      · simp only [hi, if_false]
        split <;> rename_i hm <;> (rw [Tr.get]; simp only [hi, hm, if_false, if_true]; exact ih _ _ h2)
    | node v l r =>
      unfold Tr.set
      by_cases hi : i = 0
      · simp [hi, Tr.get]
      · simp only [hi, if_false]
        split <;> rename_i hm <;> (rw [Tr.get]; simp only [hi, hm, if_false, if_true]; exact ih _ _ h2)

/-- A slot's value. -/
def tget (t : Tr Value) (i : Nat) : Value := match t.get deep i with
  | some v => v
  | none => undef

def tset (t : Tr Value) (i : Nat) (v : Value) : Tr Value := Tr.set (some v) deep t i

theorem tget_set_same (t : Tr Value) (i : Nat) (v : Value) (h : i < 1000000) : tget (tset t i v) i = v := by
  unfold tget tset
  rw [Tr.get_set_lt (some v) 23 t i (by omega)]
theorem tget_set_other (t : Tr Value) (i j : Nat) (v : Value) (h : i ≠ j) : tget (tset t i v) j = tget t j := by
  unfold tget tset
  rw [Tr.get_set_ne _ _ _ _ _ h]

def aev (t : Tr Value) : Operand → Value
  | .tmp i => tget t i
  | .const v => v
  | .global g => .pointer (some ⟨g, 0, none⟩)
  | .func f => .func (.func f) #[] #[]

def aput (n : Nat) (t : Tr Value) (dst : Option Tmp) (v : Value) : Option (Tr Value) :=
  match dst with
  | none => some t
  | some d => if d < n then some (tset t d v) else none

/-- Is the operation wanted? (None: that is not known.) -/
def aYield (ops : Array Oper) (t : Tr Value) (o : Oper) : Option Bool :=
  match o.guard with
  | none => some true
  | some (j, b) => match (ops[j]?).bind (·.dst) with
    | some d => match tget t d with
      | .bool β => some (β == b)
      | .tuple _ => some false
      | _ => none
    | none => some false

/-- How an operation of a region that draws its order is gone through: whenever it likes; in its turn; it makes memory, before its turn or in it. -/
inductive Kind where
  | free
  | strict
  | fresh
  deriving DecidableEq

def isMapT (P : Program) (t : TypeId) : Bool := match P.underlying t with
  | some (.map _ _) => true
  | _ => false
/-- Calls, and what writes memory, or looks at a map. -/
def strictOp (P : Program) (o : Oper) : Bool :=
  match o.op with
  | .alloc _ => true
  | .box _ _ => true
  | .buildSlice _ _ _ => true
  | .store _ _ _ => true
  | .makeSlice _ _ _ => true
  | .makeMap _ _ => true
  | .mapUpdate _ _ _ _ => true
  | .insert _ _ _ _ => true
  | .range _ _ => true
  | .next _ _ => true
  | .lookup _ _ _ _ => true
  | .call { callee := .builtin .len, argTypes := ⟨[t]⟩, .. } => isMapT P t
  | .call { callee := .builtin .min, .. } => false
  | .call { callee := .builtin .max, .. } => false
  | .call _ => true
  | _ => false
def freshOp (o : Oper) : Bool :=
  o.guard.isNone && o.dst.isSome && (match o.op with
  | .alloc _ => true
  | .box _ _ => true
  | .buildSlice _ _ _ => true
  | .makeSlice _ _ _ => true
  | .makeMap _ none => true
  | _ => false)
def isLoad (o : Oper) : Bool := match o.op with
  | .load _ _ => true
  | _ => false
def isTmpIn (l : List Tmp) : Operand → Bool
  | .tmp t => l.contains t
  | _ => false

def setAll (L : Array Bool) (l : List Nat) : Array Bool := l.foldl (fun a i => a.setIfInBounds i true) L

abbrev DPlan := List (Nat × Kind)

def freshOf : DPlan → List Nat
  | [] => []
  | (i, .fresh) :: r => i :: freshOf r
  | _ :: r => freshOf r

/-- An order in which a region may be gone through; l: what hangs on calls and on new memory. -/
def planFrom (P : Program) (ops : Array Oper) : Nat → Array Bool → List Tmp → DPlan
  | 0, _, _ => []
  | k + 1, L, l =>
    let ready := Region.ready .any ops L
    let hit (o : Oper) : Bool := o.op.operands.toList.any (isTmpIn l)
    let more (o : Oper) : List Tmp := match o.dst with | some d => d :: l | none => l
    match ready.find? (fun i => match ops[i]? with | some o => !(strictOp P o || (isLoad o && hit o)) && Region.free .any ops L i | none => false) with
    | some i => match ops[i]? with
      | some o => (i, .free) :: planFrom P ops k (L.setIfInBounds i true) (if hit o then more o else l)
      | none => []
    | none => match ready.filter (fun i => match ops[i]? with | some o => !freshOp o | none => false) with
      | i :: _ => match ops[i]? with
        | some o => (i, .strict) :: planFrom P ops k (L.setIfInBounds i true) (more o)
        | none => []
      | [] => match ready with
        | i :: _ => match ops[i]? with
          | some o => (i, .fresh) :: planFrom P ops k (L.setIfInBounds i true) (more o)
          | none => []
        | [] => []
def planOf (P : Program) (ops : Array Oper) : DPlan := planFrom P ops ops.size (Array.replicate ops.size false) []

/-- x is apart from what y looks at and yields. -/
def clear1 (ops : Array Oper) (x y : Oper) : Bool := match x.dst with
  | some d => !(y.looksAt ops).contains d && y.dst != some d
  | none => true
def clear2 (ops : Array Oper) (x y : Oper) : Bool := match y.dst with
  | some d => !(x.looksAt ops).contains d
  | none => true

/-- May one go so? -/
def okD (ops : Array Oper) : DPlan → Array Bool → Bool
  | [], L => (Region.ready .any ops L).isEmpty
  | (i, k) :: r, L => match ops[i]? with
    | none => false
    | some oi =>
      (Region.ready .any ops L).contains i &&
      ((freshOf r).all fun q => match ops[q]? with
        | some oq => clear1 ops oq oi && (clear2 ops oq oi || (oq.after.any fun e => Region.binds .any e && e.on == i))
        | none => false) &&
      (match k with
      | .free => Region.free .any ops L i
      | .strict => (Region.ready .any ops (setAll L (freshOf r))).all (· == i)
      | .fresh => freshOp oi && clear2 ops oi oi && (Region.ready .any ops (setAll L (freshOf r))).all (· == i)) &&
      okD ops r (L.setIfInBounds i true)
def drawnOk (ops : Array Oper) (plan : DPlan) : Bool := Region.noSelect ops && decide (plan.length = ops.size) && okD ops plan (Array.replicate ops.size false)

/-- What calls come to. -/
abbrev Callee1 := FuncId → Array Value → AM → Option (Value × AM)

/-- The operations of a region, in the text's order. -/
def evalOps (P : Program) (call : Callee1) (n : Nat) (ops : Array Oper) : List Oper → Tr Value → AM → Option (Tr Value × AM)
  | [], t, m => some (t, m)
  | o :: rest, t, m =>
    match aYield ops t o with
    | none => none
    | some false => match aput n t o.dst undef with
      | some t' => evalOps P call n ops rest t' m
      | none => none
    | some true => match stepOp P (aev t) o m with
      | none => none
      | some (.value v, m') => match aput n t o.dst v with
        | some t' => evalOps P call n ops rest t' m'
        | none => none
      | some (.skip, m') => match aput n t o.dst undef with
        | some t' => evalOps P call n ops rest t' m'
        | none => none
      | some (.enter f args, m') => match call f args m' with
        | some (v, m2) => match aput n t o.dst v with
          | some t' => evalOps P call n ops rest t' m2
          | none => none
        | none => none

/-- Ranges of cells that were read: by which operation; where. -/
abbrev Seen := List (Nat × Nat × Nat × Nat)
/-- Memory before and behind an operation. -/
abbrev Snaps := List (Nat × AM × AM)

/-- What the cells of a value are, read. -/
def ofCells (d : TypeDesc) (l : List Value) : Option Value :=
  match d, l with
  | .struct _, _ => some (.agg l.toArray)
  | .array _ _, _ => some (.agg l.toArray)
  | _, [v] => some v
  | _, _ => none

/-- A load that comes up whenever it likes; what it read. m0: the memory with which the region began. -/
def loadFirst (P : Program) (m0 m : AM) (t : Tr Value) (i : Nat) (o : Oper) : Option (Value × Seen) :=
  match o.op with
  | .load ty a => if okx a = true then match aev t a, P.info? ty, P.underlying ty with
    | .pointer (some p), some q, some d => if p.spot = none ∧ 0 < q.size ∧ (m0.get p.block).isSome = true then match absCells m p q.size with
      | some l => match ofCells d l with
        | some v => some (v, [(i, p.block, p.off, q.size)])
        | none => none
      | none => none else none
    | _, _, _ => none else none
  | _ => none

/-- It can be carried out whatever its operands are. -/
def sureAlloc (P : Program) (o : Oper) : Bool := match o.op with
  | .alloc t => (peel P (zeroValue t)).isSome
  | .box _ _ => true
  | _ => false
/-- It looks at none of what these yield. -/
def aside (ops : Array Oper) (o : Oper) (r : List Nat) : Bool := r.all fun q => match ops[q]? with
  | some oq => clear2 ops o oq
  | none => true

/-- What makes memory, and may come up before its turn, can be carried out. -/
def earlyOk (P : Program) (ops : Array Oper) (t : Tr Value) (L : Array Bool) (r : List Nat) : Bool :=
  r.all fun q => match ops[q]? with
    | some oq => (oq.after.any fun e => Region.binds .any e && !(setAll L r).getD e.on false) || sureAlloc P oq || (aside ops oq r && (absAlloc P (aev t) oq).isSome)
    | none => false

/-- A region that draws its order; m0: the memory with which it began. -/
def evalDrawn (P : Program) (call : Callee1) (n : Nat) (ops : Array Oper) (m0 : AM) : DPlan → Array Bool → Tr Value → AM → Option (Tr Value × AM × Snaps × Seen)
  | [], _, t, m => some (t, m, [], [])
  | (i, k) :: rest, L, t, m => match ops[i]? with
    | none => none
    | some o => match k with
      | .fresh => if earlyOk P ops t L (freshOf rest) = true then match absAlloc P (aev t) o with
        | some (obj, sh) => match aput n t o.dst (shapeV sh m.next) with
          | some t' => evalDrawn P call n ops m0 rest (L.setIfInBounds i true) t' (m.push obj)
          | none => none
        | none => none else none
      | .free => match aYield ops t o with
        | none => none
        | some false => match aput n t o.dst undef with
          | some t' => evalDrawn P call n ops m0 rest (L.setIfInBounds i true) t' m
          | none => none
        | some true => match absStatic P (aev t) o with
          | some v => match aput n t o.dst v with
            | some t' => evalDrawn P call n ops m0 rest (L.setIfInBounds i true) t' m
            | none => none
          | none => match loadFirst P m0 m t i o with
            | some (v, r) => match aput n t o.dst v with
              | some t' => match evalDrawn P call n ops m0 rest (L.setIfInBounds i true) t' m with
                | some (t2, m2, sn, rd) => some (t2, m2, sn, r ++ rd)
                | none => none
              | none => none
            | none => none
      | .strict => if earlyOk P ops t L (freshOf rest) = true then match aYield ops t o with
        | none => none
        | some false => match aput n t o.dst undef with
          | some t' => evalDrawn P call n ops m0 rest (L.setIfInBounds i true) t' m
          | none => none
        | some true => match stepOp P (aev t) o m with
          | none => none
          | some (.value v, m') => match aput n t o.dst v with
            | some t' => match evalDrawn P call n ops m0 rest (L.setIfInBounds i true) t' m' with
              | some (t2, m2, sn, rd) => some (t2, m2, (i, m, m') :: sn, rd)
              | none => none
            | none => none
          | some (.skip, m') => match aput n t o.dst undef with
            | some t' => match evalDrawn P call n ops m0 rest (L.setIfInBounds i true) t' m' with
              | some (t2, m2, sn, rd) => some (t2, m2, (i, m, m') :: sn, rd)
              | none => none
            | none => none
          | some (.enter f args, m') => match call f args m' with
            | some (v, m1) => match aput n t o.dst v with
              | some t' => match evalDrawn P call n ops m0 rest (L.setIfInBounds i true) t' m1 with
                | some (t2, m2, sn, rd) => some (t2, m2, (i, m, m1) :: sn, rd)
                | none => none
              | none => none
            | none => none
        else none

/-- The same value, surely. -/
def sameD : Nat → Value → Value → Bool
  | 0, _, _ => false
  | _ + 1, .bool a, .bool b => a == b
  | _ + 1, .int j a, .int k b => decide (j = k) && a == b
  | _ + 1, .float j a, .float k b => decide (j = k) && a == b
  | _ + 1, .string a, .string b => decide (a.data = b.data)
  | _ + 1, .pointer a, .pointer b => decide (a = b)
  | _ + 1, .slice none l c, .slice none l' c' => l == l' && c == c'
  | _ + 1, .slice (some a) l c, .slice (some b) l' c' => a.block != somewhere && decide (a = b) && l == l' && c == c'
  | _ + 1, .map a, .map b => decide (a = b)
  | _ + 1, .nilFunc, .nilFunc => true
  | _ + 1, .nilIface, .nilIface => true
  | _ + 1, .func fn f c, .func gn g d => decide (fn = gn) && f.isEmpty && c.isEmpty && g.isEmpty && d.isEmpty
  | _, _, _ => false

/-- Each cell of the range is there and the same. -/
def sameRange (m0 m : AM) (b o : Nat) : Nat → Bool
  | 0 => true
  | k + 1 => (match m0.cell? ⟨b, o + k, none⟩, m.cell? ⟨b, o + k, none⟩ with
    | some u, some v => sameD 8 u v
    | _, _ => false) && sameRange m0 m b o k

def sameSeen (ops : Array Oper) (j : Nat) (m0 m : AM) : Seen → Bool
  | [] => true
  | (i, b, o, k) :: r => (!unrelated ops i j || sameRange m0 m b o k) && sameSeen ops j m0 m r
def sameAll (ops : Array Oper) (rd : Seen) : Snaps → Bool
  | [] => true
  | (j, m0, m) :: r => sameSeen ops j m0 m rd && sameAll ops rd r

inductive AExit where
  | normal
  | exit (id : Nat)
  | ret

def AExit.to : AExit → Exit
  | .normal => .normal
  | .exit i => .exit i
  | .ret => .ret

def evalCode (P : Program) (call : Callee1) (n : Nat) : Nat → Code → Tr Value → AM → Option (AExit × Tr Value × AM)
  | 0, _, _, _ => none
  | k + 1, c, t, m => match c with
    | .skip => some (.normal, t, m)
    | .label _ => some (.normal, t, m)
    | .ret => some (.ret, t, m)
    | .exit id => some (.exit id, t, m)
    | .seq a b => match evalCode P call n k a t m with
      | some (.normal, t', m') => evalCode P call n k b t' m'
      | r => r
    | .cond x a b => if okx x = true then match aev t x with
      | .bool true => evalCode P call n k a t m
      | .bool false => evalCode P call n k b t m
      | _ => none else none
    | .block id b => match evalCode P call n k b t m with
      | some (.exit j, t', m') => if j = id then some (.normal, t', m') else some (.exit j, t', m')
      | r => r
    | .loop b => match evalCode P call n k b t m with
      | some (.normal, t', m') => evalCode P call n k (.loop b) t' m'
      | r => r
    | .scope b => evalCode P call n k b t m
    | .region _ ops false => match evalOps P call n ops ops.toList t m with
      | some (t', m') => some (.normal, t', m')
      | none => none
    | .region _ ops true => if drawnOk ops (planOf P ops) = true then match evalDrawn P call n ops m (planOf P ops) (Array.replicate ops.size false) t m with
        | some (t', m', sn, rd) => if sameAll ops rd sn = true then some (.normal, t', m') else none
        | none => none else none
    | _ => none

def initT : List Value → Nat → Tr Value → Tr Value
  | [], _, t => t
  | v :: r, i, t => initT r (i + 1) (tset t i v)

def aresults (P : Program) : List ResultVar → Tr Value → AM → Option (List Value)
  | [], _, _ => some []
  | .tmp i :: r, t, m => match aresults P r t m with
    | some l => some (tget t i :: l)
    | none => none
  | .cell a ty :: r, t, m => match tget t a with
    | .pointer (some p) => match arun P (Go.loadVar ty p) m, aresults P r t m with
      | some (v, m'), some l => if m'.tick = m.tick then some (v :: l) else none
      | _, _ => none
    | _ => none

def oneOf : List Value → Value
  | [v] => v
  | l => .tuple l.toArray

/-- A call, d deep, each function with so many steps. -/
def evalCall (P : Program) (steps : Nat) : Nat → Callee1
  | 0, _, _, _ => none
  | d + 1, f, args, m => match P.funcs[f]? with
    | some fn => match fn.body with
      | some c => if args.size ≤ fn.ntmps ∧ fn.ntmps ≤ 1000000 then
          match evalCode P (evalCall P steps d) fn.ntmps steps c (initT args.toList 0 .nil) m with
          | some (.normal, t, m') => match aresults P fn.results.toList t m' with
            | some l => some (oneOf l, m')
            | none => none
          | some (.ret, t, m') => match aresults P fn.results.toList t m' with
            | some l => some (oneOf l, m')
            | none => none
          | _ => none
        else none
      | none => none
    | none => none
end Go.Proofs.Ytfbphlakbhmpeaa
