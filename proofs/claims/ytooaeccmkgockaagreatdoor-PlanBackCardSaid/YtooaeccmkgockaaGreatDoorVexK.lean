/-
  Exact pointers and rows: blocks of one's own that are known by their number; laws of what is done with them. Condition: the table of types says what the program's says.
-/
import Derived.Test.YtooaeccmkgockaaGreatDoorVuK
import Derived.Test.YtooaeccmkgockaaGreatDoorK1
namespace Go.Proofs.YtooaeccmkgockaaGreatDoor.V
open Go.RowKit

def celO (el : TypeId) (cur : List Value) : Obj := .cells cur.toArray el (0, 0)

section
variable {P : Program} {tt : TT} {E : Env} {s : St} {σ : Nat → Nat} {τ : Nat → Value} {a : Act} {w : World}

theorem setCell_block {w : World} {g o : Nat} {el : TypeId} {cur : List Value} {v : Value} (h : w.heap[g]? = some (celO el cur)) : w.setCell ⟨g, o, none⟩ v = { w with heap := w.heap.setIfInBounds g (celO el (cur.set o v)) } := by
  have hlt : g < w.heap.size := (Array.getElem?_eq_some_iff.1 h).1
  have hg : w.heap[g] = celO el cur := by simpa [Array.getElem?_eq_getElem hlt] using h
  unfold World.setCell
  congr 1
  apply Array.ext_getElem?
  intro i
  rw [Array.getElem?_modify, Array.getElem?_setIfInBounds]
  by_cases hi : g = i
  · subst hi
    simp only [if_true, h, Option.map_some, hlt, celO, Option.isSome_none, Bool.false_eq_true, if_false]
    congr 2
    apply Array.ext'
    simp
  · simp only [hi, if_false]

end
end Go.Proofs.YtooaeccmkgockaaGreatDoor.V
