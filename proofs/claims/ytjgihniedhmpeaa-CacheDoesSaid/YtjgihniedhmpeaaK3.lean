/-
  Texts of Ethernet addresses, as lists of numbers: the program's reading and the document's answer alike. No condition.
  Bytes as numbers, ones sums, packets' bodies as lists of numbers. No condition.
  Numbers in digits, by value: the program's and the document's. Conditions: numbers below 256.
-/
import Derived.Test.YtjgihniedhmpeaaK1
import Derived.Test.YtjgihniedhmpeaaTtK
namespace Go.Proofs.Ytjgihniedhmpeaa.V

def hx (k : Nat) : Nat := if k < 10 then 48 + k else 87 + k
def unhex (c : Nat) : Option Nat := if 48 ≤ c ∧ c ≤ 57 then some (c - 48) else if 97 ≤ c ∧ c ≤ 102 then some (c - 87) else none
/-! ### The program's reading -/
/-! ### The document's answer -/
def uh (c : Nat) : Nat := (unhex c).getD 0
def mo (l : List Nat) (i j : Nat) : Nat := if i ≤ 3 * j then 0 else if i = 3 * j + 1 then uh (l.getD (3 * j) 0) else uh (l.getD (3 * j) 0) * 16 + uh (l.getD (3 * j + 1) 0)
end Go.Proofs.Ytjgihniedhmpeaa.V
namespace Go.Proofs.Ytjgihniedhmpeaa.V

/-! ### Bytes -/
/-! ### Sums -/
/-! ### Heads -/
def b2 (n : Nat) : List Nat := [n / 256 % 256, n % 256]
/-! ### Bodies -/
end Go.Proofs.Ytjgihniedhmpeaa.V
namespace Go.Proofs.Ytjgihniedhmpeaa.V
open Go.RowKit
attribute [local irreducible] Fn FnN OpVC

abbrev u32D (n : Int) : D := .v (.int .u32 n)
abbrev u8D (n : Int) : D := .v (.int .u8 n)

end Go.Proofs.Ytjgihniedhmpeaa.V
