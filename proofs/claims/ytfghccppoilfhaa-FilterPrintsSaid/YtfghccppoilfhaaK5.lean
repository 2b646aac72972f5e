/-
  Bytes as numbers, numbers as bytes, pieces of bytes: the program's, by value. Conditions: bytes, not too many.
  What a packet's data are: the program's, by value. Conditions: bytes, not too many; numbers of their types.
-/
import Derived.Test.YtfghccppoilfhaaK2
import Derived.Test.YtfghccppoilfhaaK3
import Derived.Test.YtfghccppoilfhaaK1
import Derived.Test.YtfghccppoilfhaaK4
namespace Go.Proofs.Ytfghccppoilfhaa.V
open Go.RowKit
section
variable {P : Program}
end
attribute [local irreducible] Fn FnN FnR OpVC DLe

theorem wrapN {n : Nat} (h : n ≤ 4000000000) : IntKind.i64.wrap ((n : Int) + 1) = ((n + 1 : Nat) : Int) := by rw [IntWalk.i64_in _ (by omega)]; omega
end Go.Proofs.Ytfghccppoilfhaa.V
namespace Go.Proofs.Ytfghccppoilfhaa.V
open Go.RowKit
attribute [local irreducible] Fn FnN FnR OpVC DLe

structure Pkt where
  tos : Nat
  id : Nat
  df : Bool
  mf : Bool
  off : Nat
  ttl : Nat
  proto : Nat
  src : Nat
  dst : Nat
  opts : List Nat
  data : List Nat
structure Pkt.ok (p : Pkt) : Prop where
  tos : p.tos < 256
  id : p.id < 65536
  off : p.off < 65536
  ttl : p.ttl < 256
  proto : p.proto < 256
  src : p.src < 4294967296
  dst : p.dst < 4294967296
  opts : Byt p.opts
  data : Byt p.data
end Go.Proofs.Ytfghccppoilfhaa.V
