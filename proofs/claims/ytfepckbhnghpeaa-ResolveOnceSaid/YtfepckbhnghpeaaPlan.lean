/-
  A region that draws its order, walked once, in an order that is given: what only reads is taken first, what writes or makes memory comes up alone. No condition.
-/
import Derived.Test.YtfepckbhnghpeaaRow
import Derived.Deep.QuietTactic
import Derived.BigQuiet
import Derived.Deep.RegionHeld3
namespace Go.Proofs.Ytfepckbhnghpeaa
open Go.RowKit

def Since (V w : World) : Prop := Below V.heap.size V w
theorem Since.refl (V : World) : Since V V := Below.refl _ _
theorem Since.drew {V w : World} (h : Since V w) : Since V w.drew := Below.drew h
theorem Since.alloc {V w : World} (h : Since V w) (o : Obj) : Since V (w.alloc o) := Below.alloc h (Below.size h) o
theorem Since.next {V w w' : World} (h : Since V w) (hb : Below w.heap.size w w') : Since V w' := below_next h (Nat.le_refl _) hb
theorem Since.below {V w : World} (h : Since V w) : Below V.heap.size V w := h
theorem Since.lt {V w : World} (h : Since V w) : V.heap.size ≤ w.heap.size := Below.size h
theorem Since.trans {U V w : World} (h : Since U V) (h' : Since V w) : Since U w := below_next h (Nat.le_refl _) h'
theorem Since.first (w : World) (o : Obj) : Since w (w.alloc o) := (Since.refl w).alloc o

section
variable {P : Program} {ops : Array Oper} {Q : Exit → Act → World → Prop} {S : World → Prop}

/-! ### The text's own order -/

def wpLexP (P : Program) (ops : Array Oper) (Q : Exit → Act → World → Prop) (S : World → Prop) : List Oper → List Bool → Act → World → Prop
  | [], [], a, w => Q .normal a w
  | o :: rest, solo :: fl, a, w =>
    if Region.wanted o (yielded ops a.tmps) = true then
      if solo = true then o.wp P a w (fun a' w' => S w' ∧ wpLexP P ops Q S rest fl a' w') Q
      else ∃ v, (∀ w, S w → (execOp a.eval o).run P w = .ok (.value v) w) ∧ wpLexP P ops Q S rest fl (a.put o.dst v) w
    else wpLexP P ops Q S rest fl (a.put o.dst undef) w
  | _, _, _, _ => False

end
attribute [irreducible] wpLexP
end Go.Proofs.Ytfepckbhnghpeaa
