/-
  The weakest precondition of a piece of code on symbolic data: definitions. No condition.
-/
import Derived.Test.YtfghccppoilfhaaVa
import Derived.Test.YtfghccppoilfhaaEq
import Derived.OrdersHeld
import Derived.LoopN
import Derived.Scope
import Derived.Tactics
namespace Go.Proofs.Ytfghccppoilfhaa.V
open Go.RowKit

/-! ### Types, by a table -/
inductive UD where
  | int (k : IntKind)
  | bool
  | str
  | ptr
  | slice (e : TypeId)
  | array (n : Nat) (e : TypeId)
  | struct (fs : List (Nat × TypeId))
  | map (k e : TypeId)
  | other

structure TI where
  ud : UD
  size : Nat
  bytes : Nat
  zero : List Value

def udOf : TypeDesc → UD
  | .int k => .int k
  | .bool => .bool
  | .string => .str
  | .pointer _ => .ptr
  | .slice e => .slice e
  | .array n e => .array n e
  | .struct fs => .struct (fs.toList.map fun f => (f.offset, f.type))
  | .map k e => .map k e
  | _ => .other

def viewOf (P : Program) (t : TypeId) : Option TI :=
  match P.underlying t, P.info? t with
  | some d, some i => match i.zero with
    | some z => some ⟨udOf d, i.size, i.bytes, z.cells.toList⟩
    | none => none
  | _, _ => none

abbrev TT := List (Nat × TI)
def tfind : TT → Nat → Option TI
  | [], _ => none
  | (k, x) :: r, i => match Nat.beq k i with
    | true => some x
    | false => tfind r i
def ttOk (P : Program) (tt : TT) : Prop := tt.map (fun x => viewOf P x.1) = tt.map fun x => some x.2

/-! ### Data taken apart -/
def takeD : Nat → List D → Option (List D)
  | 0, _ => some []
  | n + 1, d :: l => match takeD n l with
    | some r => some (d :: r)
    | none => none
  | _ + 1, [] => none
def dropD : Nat → List D → List D
  | 0, l => l
  | n + 1, _ :: l => dropD n l
  | _ + 1, [] => []
def putD : List D → Nat → List D → Option (List D)
  | l, 0, [] => some l
  | _ :: l, 0, v :: vs => match putD l 0 vs with
    | some r => some (v :: r)
    | none => none
  | d :: l, o + 1, vs => match putD l o vs with
    | some r => some (d :: r)
    | none => none
  | [], _ + 1, _ => none
  | [], 0, _ :: _ => none

def UD.isRow : UD → Bool
  | .array _ _ => true
  | .struct _ => true
  | _ => false

def cellsD : D → Option (List D)
  | .agg l => some l
  | .tup _ => none
  | .junk => none
  | .v (.agg _) => none
  | .v (.tuple _) => none
  | d => some [d]

def ofCellsD (ti : TI) (l : List D) : Option D :=
  match ti.ud.isRow with
  | true => match takeD ti.size l with
    | some r => some (.agg r)
    | none => none
  | false => match l with
    | d :: _ => some d
    | [] => none

def seeD (d : D) (K : D → Prop) : Prop := match d with
  | .v v => K (.v v)
  | .agg l => K (.agg l)
  | .tup l => K (.tup l)
  | .rows α e enc L => K (.rows α e enc L)
  | .lit e L => K (.lit e L)
  | .emp => K .emp
  | .fp l => K (.fp l)
  | .loc id off => K (.loc id off)
  | .grow id => K (.grow id)
  | .op id e i off => K (.op id e i off)
  | .win id e lo n => K (.win id e lo n)
  | .cut id n => K (.cut id n)
  | .cap id n c => K (.cap id n c)
  | .asl id off n => K (.asl id off n)
  | .fn f a b => K (.fn f a b)
  | .iface t d => K (.iface t d)
  | .mapr id => K (.mapr id)
  | .sp A => K (.sp A)
  | .junk => K .junk
theorem seeD_eq (d : D) (K : D → Prop) : seeD d K = K d := by cases d <;> rfl

def seeL : List D → (List D → Prop) → Prop
  | [], K => K []
  | d :: r, K => seeD d fun d => seeL r fun r => K (d :: r)
theorem seeL_eq : ∀ (l : List D) (K : List D → Prop), seeL l K = K l
  | [], _ => rfl
  | d :: r, K => by rw [seeL, seeD_eq, seeL_eq r]

def St.put (s : St) (dst : Option Tmp) (d : D) : St := match dst with
  | none => s
  | some i => ⟨(i, d) :: s.F, s.H, s.nx, s.G⟩
def putK (s : St) (dst : Option Tmp) (d : D) (K : St → Prop) : Prop := match dst with
  | none => K s
  | some i => match s with
    | ⟨F, H, nx, G⟩ => K ⟨(i, d) :: F, H, nx, G⟩
theorem putK_eq (s : St) (dst : Option Tmp) (d : D) (K : St → Prop) : putK s dst d K = K (s.put dst d) := by cases dst <;> rfl
def evD (s : St) : Operand → D
  | .tmp i => slotD s i
  | .const (.agg _) => .junk
  | .const v => .v v
  | .global _ => .junk
  | .func f => .fn f [] []

def listD (s : St) : List Operand → List D
  | [] => []
  | x :: r => evD s x :: listD s r

def partsD (s : St) : List (Nat × Operand) → List (Nat × D)
  | [] => []
  | (i, x) :: r => (i, evD s x) :: partsD s r

/-! ### Operations -/

def Fork (b : Bool) (X Y : Prop) : Prop := match b with
  | true => X
  | false => Y
theorem Fork.intro {b : Bool} {X Y : Prop} (h : b = true → X) (k : b = false → Y) : Fork b X Y := by
  cases b
  · exact k rfl
  · exact h rfl

def intBin (op : BinOp) (k : IntKind) (a b : Int) (K : Value → Prop) : Prop :=
  match op with
  | .add => K (.int k (k.wrap (a + b)))
  | .sub => K (.int k (k.wrap (a - b)))
  | .mul => K (.int k (k.wrap (a * b)))
  | .quo => b ≠ 0 ∧ K (.int k (k.wrap (a.tdiv b)))
  | .rem => b ≠ 0 ∧ K (.int k (a.tmod b))
  | .and => K (.int k (k.wrap ((BitVec.ofInt k.bits a &&& BitVec.ofInt k.bits b).toNat)))
  | .or => K (.int k (k.wrap ((BitVec.ofInt k.bits a ||| BitVec.ofInt k.bits b).toNat)))
  | .xor => K (.int k (k.wrap ((BitVec.ofInt k.bits a ^^^ BitVec.ofInt k.bits b).toNat)))
  | .andNot => K (.int k (k.wrap ((BitVec.ofInt k.bits a &&& ~~~(BitVec.ofInt k.bits b)).toNat)))
  | .eql => K (.bool (decide (a = b)))
  | .neq => K (.bool (!decide (a = b)))
  | .lss => K (.bool (decide (a < b)))
  | .leq => K (.bool (decide (a ≤ b)))
  | .gtr => K (.bool (decide (b < a)))
  | .geq => K (.bool (decide (b ≤ a)))
  | _ => False

def intShift (op : BinOp) (k : IntKind) (a b : Int) (K : Value → Prop) : Prop :=
  match op with
  | .shl => 0 ≤ b ∧ K (.int k (k.wrap (a * 2 ^ (min b.toNat k.bits))))
  | .shr => 0 ≤ b ∧ K (.int k (a.fdiv (2 ^ (min b.toNat k.bits))))
  | _ => False
def isShift : BinOp → Bool
  | .shl => true
  | .shr => true
  | _ => false

def strBin (op : BinOp) (a b : ByteArray) (K : Value → Prop) : Prop :=
  match op with
  | .add => ((a.size + b.size : Nat) : Int) ≤ 9223372036854775807 ∧ K (.string (a ++ b))
  | .eql => K (.bool (a.toList == b.toList))
  | .neq => K (.bool (!(a.toList == b.toList)))
  | _ => False

def boolBin (op : BinOp) (a b : Bool) (K : Value → Prop) : Prop :=
  match op with
  | .eql => K (.bool (a == b))
  | .neq => K (.bool (!(a == b)))
  | _ => False

def IntKind.same : IntKind → IntKind → Bool := fun a b => decide (a = b)

def pairD : D → D → Bool
  | .v (.int k _), .v (.int k' _) => IntKind.same k k'
  | .v (.bool _), .v (.bool _) => true
  | .v (.string _), .v (.string _) => true
  | _, _ => false
def pairsB : List D → List D → Bool
  | [], [] => true
  | x :: a, y :: b => match pairD x y with
    | true => pairsB a b
    | false => false
  | _, _ => false
def eqD : List D → List D → Bool
  | .v (.int _ x) :: a, .v (.int _ y) :: b => decide (x = y) && eqD a b
  | .v (.bool x) :: a, .v (.bool y) :: b => (x == y) && eqD a b
  | .v (.string x) :: a, .v (.string y) :: b => (x == y) && eqD a b
  | _, _ => true
def kindD : D → Nat
  | .v (.int _ _) => 1
  | .v (.bool _) => 2
  | .v (.string _) => 3
  | _ => 0
def kindT : Option TypeDesc → Nat
  | some (.int _) => 1
  | some .bool => 2
  | some .string => 3
  | _ => 9
def eqOk (P : Program) (t : TypeId) (ks : List Nat) : Bool := eqTree P 4 t && isRowB P t && !(P.eqGuardType P.depth t) && decide ((cellTys P 4 t).map (fun u => kindT (P.underlying u)) = ks)

def binD (P : Program) (tt : TT) (op : BinOp) (t : TypeId) (x y : D) (K : D → Prop) : Prop :=
  match x, y with
  | .v (.int k a), .v (.int k' b) => match isShift op with
    | true => intShift op k a b fun v => K (.v v)
    | false => match IntKind.same k k' with
      | true => intBin op k a b fun v => K (.v v)
      | false => False
  | .v (.string a), .v (.string b) => strBin op a b fun v => K (.v v)
  | .v (.bool a), .v (.bool b) => match tfind tt t with
    | some ⟨.bool, _, _, _⟩ => boolBin op a b fun v => K (.v v)
    | _ => False
  | .rows _ _ _ L, .v (.slice none 0 0) => match tfind tt t with
    | some ⟨.slice _, _, _, _⟩ => ∀ b : Bool, (b = true → L = []) → match op with
      | .eql => K (.v (.bool b))
      | .neq => K (.v (.bool (!b)))
      | _ => False
    | _ => False
  | .v (.slice none 0 0), .v (.slice none 0 0) => match tfind tt t with
    | some ⟨.slice _, _, _, _⟩ => match op with
      | .eql => K (.v (.bool true))
      | .neq => K (.v (.bool false))
      | _ => False
    | _ => False
  | .loc _ _, .v (.pointer none) => match tfind tt t with
    | some ⟨.ptr, _, _, _⟩ => match op with
      | .eql => K (.v (.bool false))
      | .neq => K (.v (.bool true))
      | _ => False
    | _ => False
  | .fp _, .v (.pointer none) => match tfind tt t with
    | some ⟨.ptr, _, _, _⟩ => match op with
      | .eql => K (.v (.bool false))
      | .neq => K (.v (.bool true))
      | _ => False
    | _ => False
  | .sp _, .v (.pointer none) => match tfind tt t with
    | some ⟨.ptr, _, _, _⟩ => match op with
      | .eql => K (.v (.bool false))
      | .neq => K (.v (.bool true))
      | _ => False
    | _ => False
  | .v (.pointer none), .v (.pointer none) => match tfind tt t with
    | some ⟨.ptr, _, _, _⟩ => match op with
      | .eql => K (.v (.bool true))
      | .neq => K (.v (.bool false))
      | _ => False
    | _ => False
  | .agg a, .agg b => eqOk P t (a.map kindD) = true ∧ pairsB a b = true ∧ match op with
    | .eql => K (.v (.bool (eqD a b)))
    | .neq => K (.v (.bool (!eqD a b)))
    | _ => False
  | _, _ => False

def unD (op : UnOp) (x : D) (K : D → Prop) : Prop :=
  match op, x with
  | .not, .v (.bool b) => K (.v (.bool (!b)))
  | .neg, .v (.int k n) => K (.v (.int k (k.wrap (0 - n))))
  | .xor, .v (.int k n) => K (.v (.int k (k.wrap ((BitVec.ofInt k.bits (if k.signed then -1 else k.max) ^^^ BitVec.ofInt k.bits n).toNat))))
  | _, _ => False

def convD (tt : TT) (src dst : TypeId) (x : D) (K : D → Prop) : Prop :=
  match tfind tt src, tfind tt dst, x with
  | some ⟨.int _, _, _, _⟩, some ⟨.int k, _, _, _⟩, .v (.int _ n) => K (.v (.int k (k.wrap n)))
  | some ⟨.str, _, _, _⟩, some ⟨.str, _, _, _⟩, .v (.string s) => K (.v (.string s))
  | _, _, _ => False

def fieldOff (tt : TT) (t : TypeId) (f : Nat) : Option (Nat × TI) :=
  match tfind tt t with
  | some ⟨.struct fs, _, _, _⟩ => match fs[f]? with
    | some (o, u) => match tfind tt u with
      | some ti => some (o, ti)
      | none => none
    | none => none
  | _ => none

def fieldAddrD (tt : TT) (t : TypeId) (x : D) (f : Nat) (K : D → Prop) : Prop :=
  match fieldOff tt t f with
  | some (o, ti) => match ti.size with
    | 0 => False
    | _ + 1 => match x with
      | .loc id off => K (.loc id (off + o))
      | .op id e i off => K (.op id e i (off + o))
      | .fp l => K (.fp (dropD o l))
      | _ => False
  | none => False

def fieldD (tt : TT) (t : TypeId) (x : D) (f : Nat) (K : D → Prop) : Prop :=
  match fieldOff tt t f with
  | some (o, ti) => match x with
    | .agg l => match ofCellsD ti (dropD o l) with
      | some d => K d
      | none => False
    | _ => False
  | none => False

def extractD (x : D) (i : Nat) (K : D → Prop) : Prop :=
  match x with
  | .tup l => match l[i]? with
    | some d => K d
    | none => False
  | _ => False

def indexAddrD (tt : TT) (s : St) (t : TypeId) (x i : D) (K : D → Prop) : Prop :=
  match tfind tt t, i with
  | some ⟨.slice e, _, _, _⟩, .v (.int _ n) => match tfind tt e with
    | some ti => match x with
      | .rows _ k enc L => ti.size = k ∧ (0 ≤ n ∧ n < (L.length : Int)) ∧ ∀ x, L[n.toNat]? = some x → K (.fp (enc x))
      | .lit k L => match n with
        | .ofNat m => match L[m]? with
          | some l => ti.size = k ∧ K (.fp l)
          | none => False
        | .negSucc _ => False
      | .grow id => match lget s.H id with
        | some (.grow _ _ k _ L) => ti.size = k ∧ (0 ≤ n ∧ n < (L.length : Int)) ∧ K (.op id k n.toNat 0)
        | _ => False
      | .cut id m => match lget s.H id with
        | some (.grow _ _ k _ L) => ti.size = k ∧ (0 ≤ n ∧ n < (m : Int) ∧ m ≤ L.length) ∧ K (.op id k n.toNat 0)
        | _ => False
      | _ => False
    | none => False
  | some ⟨.array len e, _, _, _⟩, .v (.int _ n) => match tfind tt e with
    | some ti => match x with
      | .loc id off => (0 ≤ n ∧ n < (len : Int)) ∧ K (.loc id (off + n.toNat * ti.size))
      | .op id e' i off => (0 ≤ n ∧ n < (len : Int)) ∧ K (.op id e' i (off + n.toNat * ti.size))
      | .fp l => (0 ≤ n ∧ n < (len : Int)) ∧ K (.fp (dropD (n.toNat * ti.size) l))
      | _ => False
    | none => False
  | _, _ => False

def indexD (tt : TT) (t : TypeId) (x i : D) (K : D → Prop) : Prop :=
  match tfind tt t, x, i with
  | some ⟨.array len e, _, _, _⟩, .agg l, .v (.int _ n) => match tfind tt e with
    | some ti => (0 ≤ n ∧ n < (len : Int)) ∧ match ofCellsD ti (dropD (n.toNat * ti.size) l) with
      | some d => K d
      | none => False
    | none => False
  | some ⟨.str, _, _, _⟩, .v (.string s), .v (.int _ n) => (0 ≤ n ∧ n < (s.size : Int)) ∧ ∀ b, s[n.toNat]? = some b → K (.v (.int .u8 b.toNat))
  | _, _, _ => False

def loadD (tt : TT) (s : St) (t : TypeId) (x : D) (K : D → Prop) : Prop :=
  match tfind tt t with
  | some ti => match x with
    | .loc id off => match lget s.H id with
      | some (.cells _ l) => match ofCellsD ti (dropD off l) with
        | some d => K d
        | none => False
      | _ => False
    | .fp l => match ofCellsD ti l with
      | some d => K d
      | none => False
    | .op id e i off => match lget s.H id with
      | some (.grow _ _ k enc L) => k = e ∧ i < L.length ∧ ∀ x, L[i]? = some x → match ofCellsD ti (dropD off (enc x)) with
        | some d => K d
        | none => False
      | _ => False
    | _ => False
  | none => False

def boundD (x : Option D) (d : Nat) (K : Int → Prop) : Prop :=
  match x with
  | none => K d
  | some (.v (.int _ n)) => K n
  | _ => False

def sliceD (tt : TT) (s : St) (t : TypeId) (x : D) (lo hi : Option D) (K : D → Prop) : Prop :=
  match tfind tt t with
  | some ⟨.slice e, _, _, _⟩ => match tfind tt e with
    | some ti => match x with
      | .rows α k enc L => boundD hi L.length fun h => boundD lo 0 fun l => ti.size = k ∧ (0 ≤ l ∧ l ≤ h ∧ h ≤ (L.length : Int)) ∧ K (.rows α k enc ((L.take h.toNat).drop l.toNat))
      | .grow id => match lget s.H id with
        | some (.grow _ _ k _ L) => match lo with
          | none => boundD hi L.length fun h => ti.size = k ∧ (0 ≤ h ∧ h ≤ (L.length : Int)) ∧ K (.cut id h.toNat)
          | some lo => boundD hi L.length fun h => boundD (some lo) 0 fun l => ti.size = k ∧ (0 ≤ l ∧ l ≤ h ∧ h ≤ (L.length : Int)) ∧ K (.win id k l.toNat (h - l).toNat)
        | _ => False
      | .cut id m => match lget s.H id with
        | some (.grow _ _ k _ L) => match lo with
          | none => boundD hi m fun h => ti.size = k ∧ (m ≤ L.length ∧ 0 ≤ h ∧ h ≤ (L.length : Int)) ∧ K (.cut id h.toNat)
          | some lo => boundD hi m fun h => boundD (some lo) 0 fun l => ti.size = k ∧ (m ≤ L.length ∧ 0 ≤ l ∧ l ≤ h ∧ h ≤ (L.length : Int)) ∧ K (.win id k l.toNat (h - l).toNat)
        | _ => False
      | .v (.slice none 0 0) => boundD hi 0 fun h => boundD lo 0 fun l => (l = 0 ∧ h = 0) ∧ K (.v (.slice none 0 0))
      | _ => False
    | none => False
  | some ⟨.str, _, _, _⟩ => match x with
    | .v (.string s) => boundD hi s.size fun h => boundD lo 0 fun l => (0 ≤ l ∧ l ≤ h ∧ h ≤ (s.size : Int)) ∧ K (.v (.string (s.extract l.toNat h.toNat)))
    | _ => False
  | some ⟨.array n e, _, _, _⟩ => match tfind tt e with
    | some ti => match x, lo, hi with
      | .loc id off, none, none => (Nat.beq ti.size 1 = true ∧ Nat.blt 0 n = true) ∧ K (.asl id off n)
      | _, _, _ => False
    | none => False
  | _ => False

def lenD (tt : TT) (s : St) (t : TypeId) (x : D) (K : D → Prop) : Prop :=
  match tfind tt t with
  | some ⟨.slice _, _, _, _⟩ => match x with
    | .rows _ _ _ L => K (.v (.int .i64 (L.length : Nat)))
    | .lit _ L => K (.v (.int .i64 (L.length : Nat)))
    | .emp => K (.v (.int .i64 0))
    | .win _ _ _ n => K (.v (.int .i64 (n : Nat)))
    | .asl _ _ n => K (.v (.int .i64 (n : Nat)))
    | .cut _ n => K (.v (.int .i64 (n : Nat)))
    | .v (.slice none 0 0) => K (.v (.int .i64 0))
    | .grow id => match lget s.H id with
      | some (.grow _ _ _ _ L) => K (.v (.int .i64 (L.length : Nat)))
      | _ => False
    | _ => False
  | some ⟨.str, _, _, _⟩ => match x with
    | .v (.string s) => K (.v (.int .i64 (s.size : Nat)))
    | _ => False
  | some ⟨.array n _, _, _, _⟩ => K (.v (.int .i64 (n : Nat)))
  | some ⟨.map _ _, _, _, _⟩ => match x with
    | .mapr id => match lget s.H id with
      | some (.obj (.ob (.map es _))) => K (.v (.int .i64 (es.size : Nat)))
      | _ => False
    | _ => False
  | _ => False

def slice3D (tt : TT) (s : St) (t : TypeId) (x : D) (lo hi : Option D) (mx : D) (K : D → Prop) : Prop :=
  match tfind tt t with
  | some ⟨.slice e, _, _, _⟩ => match tfind tt e with
    | some ti => match x, mx with
      | .grow id, .v (.int _ m) => match lget s.H id with
        | some (.grow _ _ k _ L) => match hi with
          | some hi => boundD (some hi) L.length fun h => match lo with
            | none => ti.size = k ∧ (0 ≤ h ∧ h ≤ m ∧ m ≤ (L.length : Int)) ∧ K (.cap id h.toNat m.toNat)
            | some lo => boundD (some lo) 0 fun l => ti.size = k ∧ (0 ≤ l ∧ l ≤ h ∧ h ≤ m ∧ m ≤ (L.length : Int)) ∧ K .junk
          | none => False
        | _ => False
      | _, _ => False
    | none => False
  | _ => False

def capD (tt : TT) (t : TypeId) (x : D) (K : D → Prop) : Prop :=
  match tfind tt t with
  | some ⟨.slice _, _, _, _⟩ => match x with
    | .v (.slice none 0 0) => K (.v (.int .i64 0))
    | _ => False
  | _ => False

def lenL : List D → Nat
  | [] => 0
  | _ :: r => lenL r + 1
def fillD (place : Nat → Option (Nat × Nat)) : List D → List (Nat × D) → Option (List D)
  | l, [] => some l
  | l, (i, d) :: r => match place i, cellsD d with
    | some (o, n), some c => match Nat.beq (lenL c) n with
      | true => match putD l o c with
        | some l' => fillD place l' r
        | none => none
      | false => none
    | _, _ => none
def placesD (tt : TT) : List (Nat × TypeId) → Option (List (Nat × Nat))
  | [] => some []
  | (o, t) :: r => match tfind tt t, placesD tt r with
    | some ti, some l => some ((o, ti.size) :: l)
    | _, _ => none

def buildD (tt : TT) (t : TypeId) (ps : List (Nat × D)) (K : D → Prop) : Prop :=
  match tfind tt t with
  | some ⟨.struct fs, _, _, z⟩ => match placesD tt fs with
    | some pl => match fillD (fun i => pl[i]?) (z.map .v) ps with
      | some l => K (.agg l)
      | none => False
    | none => False
  | some ⟨.array _ e, _, _, z⟩ => match tfind tt e with
    | some ti => match fillD (fun i => some (i * ti.size, ti.size)) (z.map .v) ps with
      | some l => K (.agg l)
      | none => False
    | none => False
  | _ => False

inductive How where
  | still
  | reads
  | makes
  | writes

def minmaxD (mn : Bool) (x y : D) (K : D → Prop) : Prop :=
  match x, y with
  | .v (.int k a), .v (.int k' b) => match IntKind.same k k' with
    | true => K (.v (.int k (match mn with
      | true => min a b
      | false => max a b)))
    | false => False
  | _, _ => False

def howOf (o : Op) : How :=
  match o with
  | .load _ _ => .reads
  | .alloc _ => .makes
  | .box _ _ => .makes
  | .buildSlice _ _ _ => .makes
  | .makeSlice _ _ _ => .makes
  | .makeMap _ _ => .makes
  | .store _ _ _ => .writes
  | .lookup _ _ _ _ => .reads
  | .mapUpdate _ _ _ _ => .writes
  | .insert _ _ _ _ => .writes
  | .call { callee := .builtin .len, .. } => .reads
  | .call { callee := .builtin .min, .. } => .still
  | .call { callee := .builtin .cap, .. } => .still
  | .call { callee := .builtin .max, .. } => .still
  | .call { callee := .builtin .append, .. } => .writes
  | .call { callee := .builtin .copy, .. } => .writes
  | .call { callee := .builtin .delete, .. } => .writes
  | .call { callee := .builtin .unsafeString, .. } => .writes
  | .call _ => .makes
  | .range _ _ => .makes
  | .next _ _ => .writes
  | .convert _ _ _ => .makes
  | .move _ => .still
  | .assign _ => .still
  | .pick _ _ _ => .still
  | .binOp _ _ _ _ _ => .still
  | .unOp _ _ _ => .still
  | .fieldAddr _ _ _ => .still
  | .field _ _ _ => .still
  | .indexAddr _ _ _ => .still
  | .index _ _ _ => .still
  | .extract _ _ => .still
  | .slice _ _ _ _ _ => .still
  | .build _ _ => .still
  | .makeFunc _ _ _ => .still
  | .nilCheck _ => .still
  | _ => .writes

def Same (w w' : World) : Prop := (∀ b o u, w.cell? ⟨b, o, none⟩ = some u → w'.cell? ⟨b, o, none⟩ = some u) ∧ ∀ (b : Nat) (o : Obj), w.heap[b]? = some o → (∃ es k, o = Obj.map es k) → w'.heap[b]? = some o
def Yields' (P : Program) (C : Ctx) (K : D → Prop) (w : World) (o : Oper) (ρ : Operand → Value) : Prop :=
  ∃ d v, K d ∧ Rep C d v ∧ ∀ w', (howOf o.op = .still ∨ Same w w') → (execOp ρ o).run P w' = .ok (.value v) w'
structure PureVC (P : Program) (s : St) (o : Op) (K : D → Prop) : Prop where
  sound : ∀ (o' : Oper), o'.op = o → ∀ E σ τ a w, SR E s σ τ a w → Yields' P (ctxOf E s.H s.nx σ τ w) K w o' a.eval
def exactK (d : D) (X : Prop) (Y : D → Prop) : Prop := match d with
  | .v (.pointer (some _)) => X
  | .v (.slice (some _) _ _) => X
  | .v (.map (some _)) => X
  | d => Y d
theorem exactK_or {d : D} {X : Prop} {Y : D → Prop} (h : exactK d X Y) : X ∨ Y d := by
  unfold exactK at h
  split at h
  · exact .inl h
  · exact .inl h
  · exact .inl h
  · exact .inr h

def ownK (d v : D) (X Y : Prop) : Prop := match d with
  | .op _ _ _ _ => match v with
    | .grow _ => X
    | _ => Y
  | _ => Y
theorem ownK_or {d v : D} {X Y : Prop} (h : ownK d v X Y) : X ∨ Y := by
  unfold ownK at h
  split at h
  · split at h
    · exact .inl h
    · exact .inr h
  · exact .inr h

def objK (s : St) (d : D) (X Y : Prop) : Prop := match d with
  | .loc id _ => match lget s.H id with
    | some (.obj _) => X
    | _ => Y
  | _ => Y
theorem objK_or {s : St} {d : D} {X Y : Prop} (h : objK s d X Y) : X ∨ Y := by
  unfold objK at h
  split at h
  · split at h
    · exact .inl h
    · exact .inr h
  · exact .inr h

def pureD (P : Program) (tt : TT) (s : St) (o : Op) (K : D → Prop) : Prop :=
  match o with
  | .move x => seeD (evD s x) K
  | .assign x => seeD (evD s x) K
  | .pick c a b => match evD s c with
    | .v (.bool β) => Fork β (seeD (evD s a) K) (seeD (evD s b) K)
    | _ => False
  | .binOp op t x y c => exactK (evD s x) (PureVC P s (.binOp op t x y c) K) fun a => exactK (evD s y) (PureVC P s (.binOp op t x y c) K) fun b => binD P tt op t a b K
  | .unOp op _ x => unD op (evD s x) K
  | .convert src dst x => convD tt src dst (evD s x) K
  | .fieldAddr t x f => exactK (evD s x) (PureVC P s (.fieldAddr t x f) K) fun d => fieldAddrD tt t d f K
  | .field t x f => fieldD tt t (evD s x) f K
  | .indexAddr t x i => exactK (evD s x) (PureVC P s (.indexAddr t x i) K) fun d => indexAddrD tt s t d (evD s i) K
  | .index t x i => indexD tt t (evD s x) (evD s i) K
  | .extract x i => extractD (evD s x) i K
  | .load t x => exactK (evD s x) (PureVC P s (.load t x) K) fun d => objK s d (PureVC P s (.load t x) K) (loadD tt s t d K)
  | .slice t x lo hi none => exactK (evD s x) (PureVC P s (.slice t x lo hi none) K) fun d => sliceD tt s t d (lo.map (evD s)) (hi.map (evD s)) K
  | .slice t x lo hi (some mx) => slice3D tt s t (evD s x) (lo.map (evD s)) (hi.map (evD s)) (evD s mx) K
  | .build t ps => buildD tt t (partsD s ps.toList) K
  | .makeFunc (.func f) first captured => K (.fn f (listD s first.toList) (listD s captured.toList))
  | .nilCheck x => exactK (evD s x) (PureVC P s (.nilCheck x) K) fun d => match d with
    | .loc id off => K (.loc id off)
    | .op id e i off => K (.op id e i off)
    | .fp l => K (.fp l)
    | .sp A => K (.sp A)
    | .fn f a b => K (.fn f a b)
    | _ => False
  | .call { callee := .builtin .len, args := ⟨[x]⟩, argTypes := ⟨[t]⟩, .. } => exactK (evD s x) (PureVC P s o K) fun d => lenD tt s t d K
  | .call { callee := .builtin .cap, args := ⟨[x]⟩, argTypes := ⟨[t]⟩, .. } => capD tt t (evD s x) K
  | .call { callee := .builtin .min, args := ⟨[x, y]⟩, argTypes := _, .. } => minmaxD true (evD s x) (evD s y) K
  | .call { callee := .builtin .max, args := ⟨[x, y]⟩, argTypes := _, .. } => minmaxD false (evD s x) (evD s y) K
  | _ => False

def reps (C : Ctx) (l : List D) (c : List Value) : Prop := c.length = l.length ∧ ∀ (j : Nat) d u, l[j]? = some d → c[j]? = some u → Rep C d u

def hasBody (P : Program) (f : FuncId) : Prop := ∃ fn, P.funcs[f]? = some fn ∧ fn.body.isSome = true

structure CallVC (P : Program) (g : Bool) (f : FuncId) (args : List D) (s : St) (K : D → St → Prop) : Prop where
  left : hasBody P f
  right : ∀ E σ τ a w args', SR E s σ τ a w → reps (ctxOf E s.H s.nx σ τ w) args args' →
    Calls P f args'.toArray w fun e w' => ∃ d s' σ' τ' v, K d s' ∧ e = .returned v ∧ SR E s' σ' τ' a w' ∧ Rep (ctxOf E s'.H s'.nx σ' τ' w') d v ∧ (g = true → Below w.heap.size w w')

def OpVC (P : Program) (g : Bool) (o : Oper) (s : St) (K : D → St → Prop) : Prop :=
  ∀ E σ τ a w, SR E s σ τ a w → ∀ (next : Act → World → Prop) (Q : Exit → Act → World → Prop),
    (∀ d s' σ' τ' v w', K d s' → SR E s' σ' τ' a w' → Rep (ctxOf E s'.H s'.nx σ' τ' w') d v → (g = true → Below w.heap.size w w') → next (a.put o.dst v) w') → o.wp P a w next Q

def allocD (tt : TT) (s : St) (t : TypeId) (l : List D) (K : D → St → Prop) : Prop :=
  match tfind tt t with
  | some ti => match takeD ti.size l with
    | some _ => match s with
      | ⟨F, H, nx, G⟩ => K (.loc nx 0) ⟨F, (nx, .cells t l) :: H, nx + 1, G⟩
    | none => False
  | none => False

def onesD : List D → Bool
  | [] => true
  | .v (.agg _) :: _ => false
  | .v (.tuple _) :: _ => false
  | .agg _ :: _ => false
  | .tup _ :: _ => false
  | .junk :: _ => false
  | _ :: r => onesD r

def storeD (tt : TT) (s : St) (t : TypeId) (x v : D) (K : D → St → Prop) : Prop :=
  match tfind tt t, cellsD v with
  | some ti, some c => match onesD c, Nat.beq (lenL c) ti.size with
    | true, true => match x with
      | .loc id off => match lget s.H id with
        | some (.cells el l) => match putD l off c with
          | some l' => match s with
            | ⟨F, H, nx, G⟩ => K (.v undef) ⟨F, (id, .cells el l') :: H, nx, G⟩
          | none => False
        | _ => False
      | .op id e i off => match lget s.H id with
        | some (.grow β el k enc L) => k = e ∧ i < L.length ∧ ∀ x, L[i]? = some x → match putD (enc x) off c with
          | some c' => c.all (cutOk 6 0) = true ∧ ∃ y, enc y = c' ∧ match s with
            | ⟨F, H, nx, G⟩ => K (.v undef) ⟨F, (id, .grow β el k enc (L.set i y)) :: H, nx, G⟩
          | none => False
        | _ => False
      | _ => False
    | _, _ => False
  | _, _ => False

def chunksD (k : Nat) : Nat → List D → Option (List (List D))
  | 0, _ => some []
  | n + 1, l => match takeD k l with
    | some c => match chunksD k n (dropD k l) with
      | some r => some (c :: r)
      | none => none
    | none => none

def repeatD (z : List D) : Nat → List D
  | 0 => []
  | n + 1 => z ++ repeatD z n

def buildEmptyD (tt : TT) (s : St) (t : TypeId) (K : D → St → Prop) : Prop :=
  match tfind tt t with
  | some ⟨.slice e, _, _, _⟩ => match tfind tt e with
    | some ti => match ti.size with
      | 0 => False
      | k + 1 => match s with
        | ⟨F, H, nx, G⟩ => K (.grow nx) ⟨F, (nx, .grow Unit e (k + 1) (fun _ => []) []) :: H, nx + 1, G⟩
    | none => False
  | _ => False

def clearD (tt : TT) (s : St) (t : TypeId) (x : D) (K : D → St → Prop) : Prop :=
  match tfind tt t with
  | some ⟨.slice el, _, _, _⟩ => match tfind tt el with
    | some ti => match x with
      | .win id e lo n => match lget s.H id with
        | some (.grow β el' k enc L) => k = e ∧ ti.size = e ∧ ti.zero.length = e ∧ 0 < e ∧ 0 < n ∧ lo + n ≤ L.length ∧ ∃ y, enc y = ti.zero.map .v ∧ onesD (ti.zero.map .v) = true ∧ match s with
          | ⟨F, H, nx, G⟩ => K (.tup []) ⟨F, (id, .grow β el' k enc (L.take lo ++ List.replicate n y ++ L.drop (lo + n))) :: H, nx, G⟩
        | _ => False
      | _ => False
    | none => False
  | _ => False

def buildSliceD (tt : TT) (s : St) (t : TypeId) (n : Nat) (ps : List (Nat × D)) (K : D → St → Prop) : Prop :=
  match tfind tt t with
  | some ⟨.slice e, _, _, _⟩ => match tfind tt e with
    | some ti => match n with
      | 0 => match ps with
        | [] => K .emp s
        | _ :: _ => False
      | n + 1 => match ti.size with
        | 0 => False
        | _ + 1 => match Nat.beq ti.zero.length ti.size with
          | true => (n + 1) * ti.size ≤ 16777216 ∧ match fillD (fun i => some (i * ti.size, ti.size)) (repeatD (ti.zero.map .v) (n + 1)) ps with
            | some l => match chunksD ti.size (n + 1) l with
              | some L => K (.lit ti.size L) s
              | none => False
            | none => False
          | false => False
    | none => False
  | _ => False

def srcRows (s : St) (e : Nat) : D → Option (List (List D))
  | .lit k LL => match Nat.beq k e with
    | true => some LL
    | false => none
  | .rows _ k enc L => match Nat.beq k e with
    | true => some (L.map enc)
    | false => none
  | .grow id => match lget s.H id with
    | some (.grow _ _ k enc L) => match Nat.beq k e with
      | true => some (L.map enc)
      | false => none
    | _ => none
  | .win id k lo n => match lget s.H id with
    | some (.grow _ _ k' enc L) => match Nat.beq k e, Nat.beq k' e, Nat.ble (lo + n) L.length with
      | true, true, true => some (((L.drop lo).take n).map enc)
      | _, _, _ => none
    | _ => none
  | .emp => some []
  | .v (.slice none 0 0) => some []
  | _ => none

def ownRows (s : St) (el e : Nat) : D → Option (List (List D))
  | .grow id => match lget s.H id with
    | some (.grow _ el' k enc L) => match Nat.beq k e, Nat.beq el' el with
      | true, true => some (L.map enc)
      | _, _ => none
    | _ => none
  | .v (.slice none 0 0) => some []
  | _ => none

def killD (d : D) (H : List (Nat × LO)) : List (Nat × LO) := match d with
  | .grow id => (id, .dead) :: H
  | _ => H

def litStill : D → Bool
  | .lit _ LL => LL.all fun l => l.all (cutOk 6 0)
  | _ => true

def appendD (tt : TT) (s : St) (t : TypeId) (dst x : D) (K : D → St → Prop) : Prop :=
  match tfind tt t with
  | some ⟨.slice el, _, _, _⟩ => match tfind tt el with
    | some ti => match ti.size, Nat.beq ti.zero.length ti.size, ownRows s el ti.size dst, srcRows s ti.size x with
      | e + 1, true, some old, some new => ∃ (β : Type) (enc : β → List D) (L : List β), L.map enc = old ++ new ∧ (∀ y, onesD (enc y) = true) ∧ L.length ≤ 1099511627776 ∧ L.length * ti.bytes ≤ 140737488355328 ∧ litStill x = true ∧
          match s with
          | ⟨F, H, nx, G⟩ => K (.grow nx) ⟨F, (nx, .grow β el (e + 1) enc L) :: killD dst H, nx + 1, G⟩
      | _, _, _, _ => False
    | none => False
  | _ => False

def appendCutD (tt : TT) (s : St) (t : TypeId) (id n : Nat) (x : D) (K : D → St → Prop) : Prop :=
  match tfind tt t with
  | some ⟨.slice el, _, _, _⟩ => match tfind tt el with
    | some ti => match lget s.H id with
      | some (.grow β el' k enc L) => ∃ new, srcRows s ti.size x = some new ∧ 0 < k ∧ ti.size = k ∧ n + new.length ≤ L.length ∧ litStill x = true ∧ ∃ L' : List β, L'.map enc = (L.map enc).take n ++ new ++ (L.map enc).drop (n + new.length) ∧ (∀ y, onesD (enc y) = true) ∧
          match s with
          | ⟨F, H, nx, G⟩ => K (.cut id (n + new.length)) ⟨F, (id, .grow β el' k enc L') :: H, nx, G⟩
      | _ => False
    | none => False
  | _ => False

def appendMakeD (tt : TT) (s : St) (t u : TypeId) (x y : D) (K : D → St → Prop) : Prop :=
  match tfind tt t, tfind tt u with
  | some ⟨.slice el, _, _, _⟩, some ⟨.int _, _, _, _⟩ => match tfind tt el with
    | some ti => match x, y with
      | .v (.slice none 0 0), .v (.int _ n) => 0 < ti.size ∧ ti.zero.length = ti.size ∧ (0 < n ∧ n ≤ 1099511627776 ∧ n * ti.bytes ≤ 140737488355328) ∧ ∃ (β : Type) (enc : β → List D) (z : β), enc z = ti.zero.map .v ∧
          match s with
          | ⟨F, H, nx, G⟩ => K (.grow nx) ⟨F, (nx, .grow β el ti.size enc (List.replicate n.toNat z)) :: H, nx + 1, G⟩
      | _, _ => False
    | none => False
  | _, _ => False

def convK (P : Program) (tt : TT) (g : Bool) (s : St) (o : Oper) (src dst : TypeId) (x : D) (K : D → St → Prop) : Prop :=
  match tfind tt src, tfind tt dst with
  | some ⟨.int _, _, _, _⟩, some ⟨.int _, _, _, _⟩ => convD tt src dst x fun d => K d s
  | some ⟨.str, _, _, _⟩, some ⟨.str, _, _, _⟩ => convD tt src dst x fun d => K d s
  | _, _ => OpVC P g o s K

def loudD (P : Program) (tt : TT) (g : Bool) (s : St) (o : Oper) (K : D → St → Prop) : Prop :=
  match o.op with
  | .alloc t => match tfind tt t with
    | some ti => allocD tt s t (ti.zero.map .v) K
    | none => False
  | .box t x => match cellsD (evD s x) with
    | some l => allocD tt s t l K
    | none => False
  | .buildSlice t 0 ⟨[]⟩ => buildEmptyD tt s t K
  | .buildSlice t n ps => match lget s.F 1000000 with
    | some .junk => OpVC P g o s K
    | _ => buildSliceD tt s t n (partsD s ps.toList) K
  | .convert src dst x => convK P tt g s o src dst (evD s x) K
  | .store t x v => match g with
    | true => OpVC P g o s K
    | false => exactK (evD s x) (OpVC P g o s K) fun d => ownK d (evD s v) (OpVC P g o s K) (storeD tt s t d (evD s v) K)
  | .call { callee := .builtin .append, args := ⟨[x, y]⟩, argTypes := ⟨[t, u]⟩, .. } => match g, Nat.beq t u with
    | false, true => exactK (evD s x) (OpVC P g o s K) fun d => match d with
      | .cut id n => appendCutD tt s t id n (evD s y) K
      | .lit _ _ => OpVC P g o s K
      | .cap _ _ _ => OpVC P g o s K
      | d => appendD tt s t d (evD s y) K
    | false, false => match tfind tt u with
      | some ⟨.str, _, _, _⟩ => OpVC P g o s K
      | _ => appendMakeD tt s t u (evD s x) (evD s y) K
    | _, _ => OpVC P g o s K
  | .call { callee := .builtin .clear, args := ⟨[x]⟩, argTypes := ⟨[t]⟩, .. } => match g with
    | true => OpVC P g o s K
    | false => clearD tt s t (evD s x) K
  | .call { callee := .value f, args := args, .. } => match evD s f with
    | .fn f first captured => seeL (first ++ listD s args.toList ++ captured) fun l => CallVC P g f l s K
    | _ => False
  | _ => OpVC P g o s K

def isPure (o : Op) : Bool := match howOf o with
  | .still => true
  | .reads => match o with
    | .lookup _ _ _ _ => false
    | _ => true
  | _ => match o with
    | .convert _ _ _ => false
    | _ => false

def St.know (s : St) (i : Nat) (b : Bool) : St := ⟨(i, .v (.bool b)) :: s.F, s.H, s.nx, s.G⟩
def knowK (s : St) (i : Nat) (b : Bool) (K : St → Prop) : Prop := match s with
  | ⟨F, H, nx, G⟩ => K ⟨(i, .v (.bool b)) :: F, H, nx, G⟩

def guardSlot (ops : List Oper) (j : Nat) : Option Nat := match ops[j]? with
  | some o => o.dst
  | none => none

def wantD (ops : List Oper) (s : St) (o : Oper) (X : St → Prop) (Y : St → Prop) : Prop :=
  match o.guard with
  | none => X s
  | some (j, b) => match guardSlot ops j with
    | some i => match slotD s i with
      | .v (.bool β) => match b with
        | true => Fork β (knowK s i true X) (knowK s i false Y)
        | false => Fork β (knowK s i true Y) (knowK s i false X)
      | .v (.tuple _) => Y s
      | _ => False
    | none => Y s

abbrev wlist (P : Program) (tt : TT) (ops : List Oper) : List Oper → St → (St → Prop) → Prop
  | [], s, K => K s
  | o :: rest, s, K =>
    wantD ops s o
      (fun s => match isPure o.op with
        | true => pureD P tt s o.op fun d => putK s o.dst d fun s => wlist P tt ops rest s K
        | false => loudD P tt false s o fun d s' => putK s' o.dst d fun s => wlist P tt ops rest s K)
      (fun s => putK s o.dst (.v undef) fun s => wlist P tt ops rest s K)

def isConv : Op → Bool
  | .convert _ _ _ => true
  | _ => false
def isPure2 (o : Op) : Bool := match isPure o with
  | true => true
  | false => isConv o

abbrev wplan (P : Program) (tt : TT) (ops : List Oper) : List Nat → St → (St → Prop) → Prop
  | [], s, K => K s
  | i :: rest, s, K => match ops[i]? with
    | none => match ops[i - 5000]? with
      | none => False
      | some o =>
        wantD ops s o
          (fun s => loudD P tt false s o fun d s' => putK s' o.dst d fun s => wplan P tt ops rest s K)
          (fun s => putK s o.dst (.v undef) fun s => wplan P tt ops rest s K)
    | some o =>
      wantD ops s o
        (fun s => match isPure2 o.op with
          | true => pureD P tt s o.op fun d => putK s o.dst d fun s => wplan P tt ops rest s K
          | false => loudD P tt (match howOf o.op with
            | .writes => false
            | _ => true) s o fun d s' => putK s' o.dst d fun s => wplan P tt ops rest s K)
        (fun s => putK s o.dst (.v undef) fun s => wplan P tt ops rest s K)

/-! ### Regions that draw their order, in every order -/
def hasN : List Nat → Nat → Bool
  | [], _ => false
  | k :: r, i => match Nat.beq k i with
    | true => true
    | false => hasN r i
def bindsA : Ground → Bool
  | .textOnly _ => false
  | .gcOnly _ => false
  | _ => true
def edgesIn (done : List Nat) : List Edge → Bool
  | [] => true
  | e :: r => match bindsA e.ground with
    | true => match hasN done e.on with
      | true => edgesIn done r
      | false => false
    | false => edgesIn done r
def readyL (done : List Nat) : List Oper → Nat → List Nat
  | [], _ => []
  | o :: r, i => match hasN done i with
    | true => readyL done r (i + 1)
    | false => match edgesIn done o.after.toList with
      | true => i :: readyL done r (i + 1)
      | false => readyL done r (i + 1)
def isStill (o : Op) : Bool := match howOf o with
  | .still => true
  | _ => false
def pickS (ops : List Oper) : List Nat → Option Nat
  | [] => none
  | i :: r => match ops[i]? with
    | some o => match isStill o.op with
      | true => some i
      | false => pickS ops r
    | none => pickS ops r
def wone (P : Program) (tt : TT) (ops : List Oper) (i : Nat) (s : St) (K : St → Prop) : Prop := match ops[i]? with
  | none => False
  | some o => wantD ops s o
      (fun s => match isPure o.op with
        | true => pureD P tt s o.op fun d => putK s o.dst d K
        | false => loudD P tt false s o fun d s' => putK s' o.dst d K)
      (fun s => putK s o.dst (.v undef) K)
abbrev wallL : List Nat → (Nat → Prop) → Prop
  | [], _ => True
  | i :: r, f => f i ∧ wallL r f
abbrev wopen (P : Program) (tt : TT) (ops : List Oper) : Nat → List Nat → St → (St → Prop) → Prop
  | 0, done, s, K => match readyL done ops 0 with
    | [] => K s
    | _ :: _ => False
  | n + 1, done, s, K => match readyL done ops 0 with
    | [] => K s
    | i :: r => match pickS ops (i :: r) with
      | some j => wone P tt ops j s fun s => wopen P tt ops n (j :: done) s K
      | none => wallL (i :: r) fun j => wone P tt ops j s fun s => wopen P tt ops n (j :: done) s K

def pickL (ok : List Nat) : List Nat → Option Nat
  | [] => none
  | i :: r => match hasN ok i with
    | true => some i
    | false => pickL ok r
def woneR (P : Program) (tt : TT) (ops : List Oper) (ok : List Nat) (i : Nat) (s : St) (K : St → Prop) : Prop := match ops[i]? with
  | none => False
  | some o => wantD ops s o
      (fun s => match isPure2 o.op with
        | true => pureD P tt s o.op fun d => putK s o.dst d K
        | false => loudD P tt (match howOf o.op with
          | .writes => false
          | _ => match hasN ok (7000 + i) with
            | true => false
            | false => true) s o fun d s' => putK s' o.dst d K)
      (fun s => putK s o.dst (.v undef) K)
abbrev wopenR (P : Program) (tt : TT) (ops : List Oper) (ok : List Nat) : Nat → List Nat → St → (St → Prop) → Prop
  | 0, done, s, K => match readyL done ops 0 with
    | [] => K s
    | _ :: _ => False
  | n + 1, done, s, K => match readyL done ops 0 with
    | [] => K s
    | i :: r => match pickL ok (i :: r) with
      | some j => woneR P tt ops ok j s fun s => wopenR P tt ops ok n (j :: done) s K
      | none => wallL (i :: r) fun j => woneR P tt ops ok j s fun s => wopenR P tt ops ok n (j :: done) s K

/-! ### Code -/
inductive VExit where
  | normal
  | exit (id : Nat)
  | ret

def tells (r : List (Nat × Nat)) (z : List Nat) (n : Nat) (d d' : D) : Prop := DLe (renD 6 r n d) d' ∨ (d = .v (.slice none 0 0) ∧ ∃ i, hasN z i = true ∧ d' = .grow i)
def coverF (r : List (Nat × Nat)) (z : List Nat) (s : St) (n : Nat) : List (Nat × D) → Prop
  | [] => True
  | (i, d) :: l => tells r z n (slotD s i) d ∧ coverF r z s n l
def tellsL (r : List (Nat × Nat)) (z : List Nat) (n : Nat) : List D → List D → Prop
  | [], [] => True
  | d :: l, d' :: l' => tells r z n d d' ∧ tellsL r z n l l'
  | _, _ => False
def LOLe (r : List (Nat × Nat)) (z : List Nat) (n : Nat) : LO → LO → Prop
  | .cells el l, .cells el' l' => el = el' ∧ tellsL r z n l l'
  | .grow α el e enc L, .grow β el' e' enc' L' => LO.grow α el e enc L = LO.grow β el' e' enc' L' ∨ (L = [] ∧ L' = [] ∧ el = el' ∧ e = e')
  | a, b => a = b
def emptyO : LO → Prop
  | .grow _ _ _ _ [] => True
  | _ => False
def coverH (r : List (Nat × Nat)) (z : List Nat) (s : St) (n : Nat) : List (Nat × LO) → Prop
  | [] => True
  | (i, o) :: l => (match hasN z i with
    | true => emptyO o
    | false => backOf r n (renOf r i) = some i ∧ (match lget s.H (renOf r i) with
      | some o' => LOLe r z n o' o
      | none => False)) ∧ coverH r z s n l
def Cover (r : List (Nat × Nat)) (z : List Nat) (s t : St) : Prop := coverF r z s t.nx t.F ∧ coverH r z s t.nx t.H ∧ s.G = t.G ∧ t.G.2 ≤ t.nx ∧ r.all (fun p => Nat.ble t.G.2 p.1) = true ∧ z.all (fun i => Nat.blt i t.nx && Nat.ble s.nx (renOf r i)) = true

abbrev Plans := List (Nat × List Nat)
def pfind : Plans → Nat → Option (List Nat)
  | [], _ => none
  | (k, x) :: r, i => match Nat.beq k i with
    | true => some x
    | false => pfind r i
def upto : Nat → Nat → List Nat
  | 0, _ => []
  | n + 1, k => k :: upto n (k + 1)
def lenO : List Oper → Nat
  | [] => 0
  | _ :: r => lenO r + 1
def planFor (pl : Plans) (id : Nat) (ops : List Oper) : List Nat := match pfind pl id with
  | some l => l
  | none => upto (lenO ops) 0

def isOpen (pl : Plans) (id : Nat) : Bool := match pfind pl id with
  | some (k :: _) => Nat.beq k 1000
  | _ => false
def okOf (pl : Plans) (id : Nat) : Option (List Nat) := match pfind pl id with
  | some (k :: r) => match Nat.beq k 1001 with
    | true => some r
    | false => none
  | _ => none

def wpc (P : Program) (tt : TT) (pl : Plans) : Code → St → (VExit → St → Prop) → Prop
  | .skip, s, K => K .normal s
  | .label _, s, K => K .normal s
  | .ret, s, K => K .ret s
  | .exit id, s, K => K (.exit id) s
  | .seq a b, s, K => wpc P tt pl a s fun e s' => match e with
    | .normal => wpc P tt pl b s' K
    | .exit i => K (.exit i) s'
    | .ret => K .ret s'
  | .cond x a b, s, K => match evD s x with
    | .v (.bool β) => Fork β (wpc P tt pl a s K) (wpc P tt pl b s K)
    | _ => False
  | .block id b, s, K => wpc P tt pl b s fun e s' => match e with
    | .exit j => match Nat.beq j id with
      | true => K .normal s'
      | false => K (.exit j) s'
    | .normal => K .normal s'
    | .ret => K .ret s'
  | .loop b, s, K => ∃ (α : Type) (st : α → St) (C : α → Prop) (μ : α → Nat), (∃ p r z, Cover r z s (st p) ∧ C p) ∧
      ∀ p, C p → wpc P tt pl b (st p) fun e s' => match e with
        | .normal => ∃ p' r z, Cover r z s' (st p') ∧ C p' ∧ μ p' < μ p
        | .exit i => K (.exit i) s'
        | .ret => K .ret s'
  | .scope b, s, K => wpc P tt pl b s K
  | .region _ ops false, s, K => wlist P tt ops.toList ops.toList s fun s' => K .normal s'
  | .region id ops true, s, K => match isOpen pl id with
    | true => ∃ (β : Type) (t : β → St), wopen P tt ops.toList (lenO ops.toList) [] s (fun s' => ∃ b r z, Cover r z s' (t b)) ∧ ∀ b, K .normal (t b)
    | false => match okOf pl id with
      | some ok => ∃ (β : Type) (t : β → St), wopenR P tt ops.toList ok (lenO ops.toList) [] s (fun s' => ∃ b r z, Cover r z s' (t b)) ∧ ∀ b, K .normal (t b)
      | none => wplan P tt ops.toList (planFor pl id ops.toList) s fun s' => K .normal s'
  | _, _, _ => False
end Go.Proofs.Ytfghccppoilfhaa.V
