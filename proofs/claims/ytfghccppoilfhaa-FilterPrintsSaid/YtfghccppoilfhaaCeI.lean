/-
  The same, part 9: temporaries, regions, code, calls, run on abstract memory. Definitions, and what temporaries are. No condition.
-/
import Derived.Test.YtfghccppoilfhaaCeN
import Derived.LoopN
import Derived.Scope
import Derived.Tactics
namespace Go.Proofs.Ytfghccppoilfhaa
open Go.RowKit

/-! ### What is set is got -/
theorem Tr.get_set_lt {α : Type} (x : Option α) : ∀ (d : Nat) (t : Tr α) (i : Nat), i < 2 ^ d → (Tr.set x (d + 1) t i).get (d + 1) i = x := by
  intro d
  induction d with
  | zero =>
    intro t i h
    have hi : i = 0 := by simpa using h
    subst hi
    cases t <;> simp [Tr.set_nil, Tr.set_node, Tr.get_node]
  | succ d ih =>
    intro t i h
    have h2 : i / 2 < 2 ^ d := by rw [Nat.pow_succ] at h; omega
    cases t with
    | nil =>
      rw [Tr.set_nil]
      by_cases hi : i = 0
      · simp [hi, Tr.get_node]
      · simp only [hi, if_false]
        split <;> rename_i hm <;> (rw [Tr.get_node]; simp only [hi, hm, if_false, if_true]; exact ih _ _ h2)
    | node v l r =>
      rw [Tr.set_node]
      by_cases hi : i = 0
      · simp [hi, Tr.get_node]
      · simp only [hi, if_false]
        split <;> rename_i hm <;> (rw [Tr.get_node]; simp only [hi, hm, if_false, if_true]; exact ih _ _ h2)

def tget (t : Tr Value) (i : Nat) : Value := match t.get deep i with
  | some v => v
  | none => undef

def tset (t : Tr Value) (i : Nat) (v : Value) : Tr Value := Tr.set (some v) deep t i

theorem tget_set_same (t : Tr Value) (i : Nat) (v : Value) (h : i < 1000000) : tget (tset t i v) i = v := by
  unfold tget tset
  rw [Tr.get_set_lt (some v) 23 t i (by omega)]
theorem tget_set_other (t : Tr Value) (i j : Nat) (v : Value) (h : i ≠ j) : tget (tset t i v) j = tget t j := by
  unfold tget tset
  rw [Tr.get_set_ne _ _ _ _ _ h]

def aev (t : Tr Value) : Operand → Value
  | .tmp i => tget t i
  | .const v => v
  | .global g => .pointer (some ⟨g, 0, none⟩)
  | .func f => .func (.func f) #[] #[]

def aput (n : Nat) (t : Tr Value) (dst : Option Tmp) (v : Value) : Option (Tr Value) :=
  match dst with
  | none => some t
  | some d => if d < n then some (tset t d v) else none

def aYield (ops : Array Oper) (t : Tr Value) (o : Oper) : Option Bool :=
  match o.guard with
  | none => some true
  | some (j, b) => match (ops[j]?).bind (·.dst) with
    | some d => match tget t d with
      | .bool β => some (β == b)
      | .tuple _ => some false
      | _ => none
    | none => some false

inductive Kind where
  | free
  | strict
  | fresh
  deriving DecidableEq

def isMapT (P : Program) (t : TypeId) : Bool := match P.underlying t with
  | some (.map _ _) => true
  | _ => false
def strictOp (P : Program) (o : Oper) : Bool :=
  match o.op with
  | .alloc _ => true
  | .box _ _ => true
  | .buildSlice _ _ _ => true
  | .store _ _ _ => true
  | .makeSlice _ _ _ => true
  | .makeMap _ _ => true
  | .mapUpdate _ _ _ _ => true
  | .insert _ _ _ _ => true
  | .range _ _ => true
  | .next _ _ => true
  | .lookup _ _ _ _ => false
  | .call { callee := .builtin .len, argTypes := ⟨[t]⟩, .. } => isMapT P t
  | .call { callee := .builtin .min, .. } => false
  | .call { callee := .builtin .max, .. } => false
  | .call _ => true
  | _ => false
def freshOp (o : Oper) : Bool :=
  o.guard.isNone && o.dst.isSome && (match o.op with
  | .alloc _ => true
  | .box _ _ => true
  | .buildSlice _ _ _ => true
  | .makeSlice _ _ _ => true
  | .makeMap _ none => true
  | _ => false)
def isLoad (o : Oper) : Bool := match o.op with
  | .load _ _ => true
  | .lookup _ _ _ _ => true
  | _ => false

def bitOf (n : Nat) : Nat := Nat.pow 2 n
def subB (a b : Nat) : Bool := Nat.beq (Nat.land a b) a
def apartB (a b : Nat) : Bool := Nat.beq (Nat.land a b) 0

def waitsOf : List Edge → Nat
  | [] => 0
  | e :: r => bif Region.binds .any e then Nat.lor (bitOf e.on) (waitsOf r) else waitsOf r
def tmpsOf : List Operand → Nat
  | [] => 0
  | .tmp t :: r => Nat.lor (bitOf t) (tmpsOf r)
  | _ :: r => tmpsOf r
def dstBit (o : Oper) : Nat := match o.dst with
  | some d => bitOf d
  | none => 0
def nthD : List Nat → Nat → Nat
  | [], _ => 0
  | x :: _, 0 => x
  | _ :: r, n + 1 => nthD r n
def orAll : List Nat → Nat
  | [] => 0
  | x :: r => Nat.lor x (orAll r)
def eachOnce : List Nat → Nat → Bool
  | [], _ => true
  | x :: r, acc => apartB x acc && eachOnce r (Nat.lor x acc)
def waitsBits (ds : List Nat) : List Edge → Nat
  | [] => 0
  | e :: r => bif Region.binds .any e then Nat.lor (nthD ds e.on) (waitsBits ds r) else waitsBits ds r
def looksBits (ds : List Nat) (o : Oper) : Nat := Nat.lor (tmpsOf o.op.operands.toList) (match o.guard with
  | some (g, _) => nthD ds g
  | none => 0)
def antiBits (i : Nat) : List Oper → Nat → Nat
  | [], _ => 0
  | y :: r, j => Nat.lor (bif !Nat.beq i j && !freshOp y && !apartB (bitOf i) (waitsOf y.after.toList) then dstBit y else 0) (antiBits i r (j + 1))
def looksOk (ds : List Nat) (all : Nat) (ops : List Oper) : List Oper → Nat → Bool
  | [], _ => true
  | o :: r, i => (subB (Nat.land (looksBits ds o) all) (waitsBits ds o.after.toList) || subB (Nat.land (looksBits ds o) all) (Nat.lor (waitsBits ds o.after.toList) (antiBits i ops 0))) && looksOk ds all ops r (i + 1)
def dataOk (ops : Array Oper) : Bool := eachOnce (ops.toList.map dstBit) 0 && looksOk (ops.toList.map dstBit) (orAll (ops.toList.map dstBit)) ops.toList ops.toList 0

def setAll (L : Array Bool) (l : List Nat) : Array Bool := l.foldl (fun a i => a.setIfInBounds i true) L

structure PItem where
  i : Nat
  k : Kind
  o : Oper
  wt : Nat
abbrev DPlan := List PItem

def freshOf : DPlan → List Nat
  | [] => []
  | ⟨i, .fresh, _, _⟩ :: r => i :: freshOf r
  | _ :: r => freshOf r
def freshBits : DPlan → Nat
  | [] => 0
  | ⟨i, .fresh, _, _⟩ :: r => Nat.lor (bitOf i) (freshBits r)
  | _ :: r => freshBits r

def enumP : List Oper → Nat → DPlan
  | [], _ => []
  | o :: r, n => ⟨n, .free, o, waitsOf o.after.toList⟩ :: enumP r (n + 1)

def passP (P : Program) : DPlan → Nat → Nat → DPlan × DPlan × Nat × Nat
  | [], L, h => ([], [], L, h)
  | p :: r, L, h =>
    bif subB p.wt L && !(strictOp P p.o || (isLoad p.o && !apartB (tmpsOf p.o.op.operands.toList) h)) then
      match passP P r (Nat.lor L (bitOf p.i)) (bif apartB (tmpsOf p.o.op.operands.toList) h then h else Nat.lor h (dstBit p.o)) with
      | (e, m, L', h') => (p :: e, m, L', h')
    else match passP P r L h with
      | (e, m, L', h') => (e, p :: m, L', h')
def pickP (f : PItem → Bool) : DPlan → Option (PItem × DPlan)
  | [] => none
  | p :: r => bif f p then some (p, r) else match pickP f r with
    | some (q, r') => some (q, p :: r')
    | none => none
def PItem.as (p : PItem) (k : Kind) : PItem := ⟨p.i, k, p.o, p.wt⟩
def planP (P : Program) : Nat → DPlan → Nat → Nat → DPlan
  | 0, _, _, _ => []
  | k + 1, rem, L, h => match passP P rem L h with
    | (e, m, L', h') => e ++ (match pickP (fun p => subB p.wt L' && !freshOp p.o) m with
      | some (p, m') => p.as .strict :: planP P k m' (Nat.lor L' (bitOf p.i)) (Nat.lor h' (dstBit p.o))
      | none => match pickP (fun p => subB p.wt L') m with
        | some (p, m') => p.as .fresh :: planP P k m' (Nat.lor L' (bitOf p.i)) (Nat.lor h' (dstBit p.o))
        | none => [])
def planOf (P : Program) (ops : Array Oper) : DPlan := planP P (ops.size + 1) (enumP ops.toList 0) 0 0

def Kind.isFresh : Kind → Bool
  | .fresh => true
  | _ => false
def aloneP (L : Nat) : DPlan → Bool
  | [] => true
  | p :: r => (p.k.isFresh || !subB p.wt L) && aloneP L r
def okP (n : Nat) : DPlan → Nat → Bool
  | [], L => Nat.beq L (Nat.sub (bitOf n) 1)
  | p :: r, L => apartB (bitOf p.i) L && subB p.wt L && (match p.k with
    | .free => true
    | .strict => aloneP (Nat.lor L (freshBits r)) r
    | .fresh => freshOp p.o && aloneP (Nat.lor L (freshBits r)) r) && okP n r (Nat.lor L (bitOf p.i))
def drawnOk (P : Program) (ops : Array Oper) : Bool := Region.noSelect ops && dataOk ops && okP ops.size (planOf P ops) 0

abbrev Callee1 := FuncId → Array Value → AM → Option (Value × AM)

def evalOps (P : Program) (call : Callee1) (n : Nat) (ops : Array Oper) : List Oper → Tr Value → AM → Option (Tr Value × AM)
  | [], t, m => some (t, m)
  | o :: rest, t, m =>
    match aYield ops t o with
    | none => none
    | some false => match aput n t o.dst undef with
      | some t' => evalOps P call n ops rest t' m
      | none => none
    | some true => match stepOp P (aev t) o m with
      | none => none
      | some (.value v, m') => match aput n t o.dst v with
        | some t' => evalOps P call n ops rest t' m'
        | none => none
      | some (.skip, m') => match aput n t o.dst undef with
        | some t' => evalOps P call n ops rest t' m'
        | none => none
      | some (.enter f args, m') => match call f args m' with
        | some (v, m2) => match aput n t o.dst v with
          | some t' => evalOps P call n ops rest t' m2
          | none => none
        | none => none

abbrev Seen := List (Nat × Nat × Nat × Nat)
abbrev Snaps := List (Nat × AM × AM)

def ofCells (d : TypeDesc) (l : List Value) : Option Value :=
  match d, l with
  | .struct _, _ => some (.agg l.toArray)
  | .array _ _, _ => some (.agg l.toArray)
  | _, [v] => some v
  | _, _ => none

def loadFirst (P : Program) (m0 m : AM) (t : Tr Value) (i : Nat) (o : Oper) : Option (Value × Seen) :=
  match o.op with
  | .load ty a => if okx a = true then match aev t a, P.info? ty, P.underlying ty with
    | .pointer (some p), some q, some d => if p.spot = none ∧ 0 < q.size ∧ (m0.get p.block).isSome = true then match absCells m p q.size with
      | some l => match ofCells d l with
        | some v => some (v, [(i, p.block, p.off, q.size)])
        | none => none
      | none => none else none
    | _, _, _ => none else none
  | .lookup ty x k ok => if okx x = true ∧ okx k = true then match aev t x with
    | .map (some b) => if (m0.get b).isSome = true then match absLookup P ty (.map (some b)) (aev t k) ok m with
      | some v => some (v, [(i, b, 0, 0)])
      | none => none else none
    | _ => none else none
  | _ => none

def sureAlloc (P : Program) (o : Oper) : Bool := match o.op with
  | .alloc t => (peel P (zeroValue t)).isSome
  | .box _ _ => true
  | _ => false
def earlyOk (P : Program) (t : Tr Value) (LF F : Nat) : DPlan → Bool
  | [] => true
  | q :: r => (!q.k.isFresh || !subB q.wt LF || sureAlloc P q.o || (apartB q.wt F && (absAlloc P (aev t) q.o).isSome)) && earlyOk P t LF F r

def evalDrawn (P : Program) (call : Callee1) (n : Nat) (ops : Array Oper) (m0 : AM) : DPlan → Nat → Tr Value → AM → Option (Tr Value × AM × Snaps × Seen)
  | [], _, t, m => some (t, m, [], [])
  | p :: rest, L, t, m => match p.k with
      | .fresh => if earlyOk P t (Nat.lor L (freshBits rest)) (freshBits rest) rest = true then match absAlloc P (aev t) p.o with
        | some (obj, sh) => match aput n t p.o.dst (shapeV sh m.next) with
          | some t' => evalDrawn P call n ops m0 rest (Nat.lor L (bitOf p.i)) t' (m.push obj)
          | none => none
        | none => none else none
      | .free => match aYield ops t p.o with
        | none => none
        | some false => match aput n t p.o.dst undef with
          | some t' => evalDrawn P call n ops m0 rest (Nat.lor L (bitOf p.i)) t' m
          | none => none
        | some true => match absStatic P (aev t) p.o with
          | some v => match aput n t p.o.dst v with
            | some t' => evalDrawn P call n ops m0 rest (Nat.lor L (bitOf p.i)) t' m
            | none => none
          | none => match loadFirst P m0 m t p.i p.o with
            | some (v, r) => match aput n t p.o.dst v with
              | some t' => match evalDrawn P call n ops m0 rest (Nat.lor L (bitOf p.i)) t' m with
                | some (t2, m2, sn, rd) => some (t2, m2, sn, r ++ rd)
                | none => none
              | none => none
            | none => none
      | .strict => if earlyOk P t (Nat.lor L (freshBits rest)) (freshBits rest) rest = true then match aYield ops t p.o with
        | none => none
        | some false => match aput n t p.o.dst undef with
          | some t' => evalDrawn P call n ops m0 rest (Nat.lor L (bitOf p.i)) t' m
          | none => none
        | some true => match stepOp P (aev t) p.o m with
          | none => none
          | some (.value v, m') => match aput n t p.o.dst v with
            | some t' => match evalDrawn P call n ops m0 rest (Nat.lor L (bitOf p.i)) t' m' with
              | some (t2, m2, sn, rd) => some (t2, m2, (p.i, m, m') :: sn, rd)
              | none => none
            | none => none
          | some (.skip, m') => match aput n t p.o.dst undef with
            | some t' => match evalDrawn P call n ops m0 rest (Nat.lor L (bitOf p.i)) t' m' with
              | some (t2, m2, sn, rd) => some (t2, m2, (p.i, m, m') :: sn, rd)
              | none => none
            | none => none
          | some (.enter f args, m') => match call f args m' with
            | some (v, m1) => match aput n t p.o.dst v with
              | some t' => match evalDrawn P call n ops m0 rest (Nat.lor L (bitOf p.i)) t' m1 with
                | some (t2, m2, sn, rd) => some (t2, m2, (p.i, m, m1) :: sn, rd)
                | none => none
              | none => none
            | none => none
        else none

def sameD : Nat → Value → Value → Bool
  | 0, _, _ => false
  | _ + 1, .bool a, .bool b => a == b
  | _ + 1, .int j a, .int k b => decide (j = k) && a == b
  | _ + 1, .float j a, .float k b => decide (j = k) && a == b
  | _ + 1, .string a, .string b => decide (a.data = b.data)
  | _ + 1, .pointer a, .pointer b => decide (a = b)
  | _ + 1, .slice none l c, .slice none l' c' => l == l' && c == c'
  | _ + 1, .slice (some a) l c, .slice (some b) l' c' => a.block != somewhere && decide (a = b) && l == l' && c == c'
  | _ + 1, .map a, .map b => decide (a = b)
  | _ + 1, .nilFunc, .nilFunc => true
  | _ + 1, .nilIface, .nilIface => true
  | _ + 1, .func fn f c, .func gn g d => decide (fn = gn) && f.isEmpty && c.isEmpty && g.isEmpty && d.isEmpty
  | _, _, _ => false

def sameRange (m0 m : AM) (b o : Nat) : Nat → Bool
  | 0 => true
  | k + 1 => (match m0.cell? ⟨b, o + k, none⟩, m.cell? ⟨b, o + k, none⟩ with
    | some u, some v => sameD 8 u v
    | _, _ => false) && sameRange m0 m b o k

def sameL : List Value → List Value → Bool
  | [], [] => true
  | x :: a, y :: b => sameD 8 x y && sameL a b
  | _, _ => false
def sameE (u v : Value) : Bool := match u with
  | .agg a => match v with
    | .agg b => sameL a.toList b.toList
    | _ => false
  | u => sameD 8 u v
def sameEnts : List MapEntry → List MapEntry → Bool
  | [], [] => true
  | x :: a, y :: b => sameD 8 x.key y.key && sameE x.val y.val && Nat.beq x.born y.born && sameEnts a b
  | _, _ => false
def sameMap (m0 m : AM) (b : Nat) : Bool := match m0.get b, m.get b with
  | some (.map es c), some (.map es' c') => sameEnts es.toList es'.toList && Nat.beq c c'
  | _, _ => false
def sameAt (m0 m : AM) (b o : Nat) : Nat → Bool
  | 0 => sameMap m0 m b
  | k + 1 => sameRange m0 m b o (k + 1)
def sameSeen (ops : Array Oper) (j : Nat) (m0 m : AM) : Seen → Bool
  | [] => true
  | (i, b, o, k) :: r => (!unrelated ops i j || sameAt m0 m b o k) && sameSeen ops j m0 m r
def sameAll (ops : Array Oper) (rd : Seen) : Snaps → Bool
  | [] => true
  | (j, m0, m) :: r => sameSeen ops j m0 m rd && sameAll ops rd r

inductive AExit where
  | normal
  | exit (id : Nat)
  | ret

def AExit.to : AExit → Exit
  | .normal => .normal
  | .exit i => .exit i
  | .ret => .ret

def evalCode (P : Program) (call : Callee1) (n : Nat) : Nat → Code → Tr Value → AM → Option (AExit × Tr Value × AM)
  | 0, _, _, _ => none
  | k + 1, c, t, m => match c with
    | .skip => some (.normal, t, m)
    | .label _ => some (.normal, t, m)
    | .ret => some (.ret, t, m)
    | .exit id => some (.exit id, t, m)
    | .seq a b => match evalCode P call n k a t m with
      | some (.normal, t', m') => evalCode P call n k b t' m'
      | r => r
    | .cond x a b => if okx x = true then match aev t x with
      | .bool true => evalCode P call n k a t m
      | .bool false => evalCode P call n k b t m
      | _ => none else none
    | .block id b => match evalCode P call n k b t m with
      | some (.exit j, t', m') => if j = id then some (.normal, t', m') else some (.exit j, t', m')
      | r => r
    | .loop b => match evalCode P call n k b t m with
      | some (.normal, t', m') => evalCode P call n k (.loop b) t' m'
      | r => r
    | .scope b => evalCode P call n k b t m
    | .region _ ops false => match evalOps P call n ops ops.toList t m with
      | some (t', m') => some (.normal, t', m')
      | none => none
    | .region _ ops true => if drawnOk P ops = true then match evalDrawn P call n ops m (planOf P ops) 0 t m with
        | some (t', m', sn, rd) => if sameAll ops rd sn = true then some (.normal, t', m') else none
        | none => none else none
    | _ => none

def initT : List Value → Nat → Tr Value → Tr Value
  | [], _, t => t
  | v :: r, i, t => initT r (i + 1) (tset t i v)

def aresults (P : Program) : List ResultVar → Tr Value → AM → Option (List Value)
  | [], _, _ => some []
  | .tmp i :: r, t, m => match aresults P r t m with
    | some l => some (tget t i :: l)
    | none => none
  | .cell a ty :: r, t, m => match tget t a with
    | .pointer (some p) => match arun P (Go.loadVar ty p) m, aresults P r t m with
      | some (v, m'), some l => if m'.tick = m.tick then some (v :: l) else none
      | _, _ => none
    | _ => none

def oneOf : List Value → Value
  | [v] => v
  | l => .tuple l.toArray

abbrev Oracle := FuncId → Array Value → Option Value
def noOracle : Oracle := fun _ _ => none

def evalAsk (P : Program) (orc : Oracle) (steps : Nat) : Nat → Callee1
  | 0, _, _, _ => none
  | d + 1, f, args, m => match orc f args with
    | some v => some (v, m)
    | none => match P.funcs[f]? with
      | some fn => match fn.body with
        | some c => if args.size ≤ fn.ntmps ∧ fn.ntmps ≤ 1000000 then
            match evalCode P (evalAsk P orc steps d) fn.ntmps steps c (initT args.toList 0 .nil) m with
            | some (.normal, t, m') => match aresults P fn.results.toList t m' with
              | some l => some (oneOf l, m')
              | none => none
            | some (.ret, t, m') => match aresults P fn.results.toList t m' with
              | some l => some (oneOf l, m')
              | none => none
            | _ => none
          else none
        | none => none
      | none => none
end Go.Proofs.Ytfghccppoilfhaa
