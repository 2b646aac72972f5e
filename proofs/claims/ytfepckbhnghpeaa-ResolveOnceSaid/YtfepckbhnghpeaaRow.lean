/-
  A struct of many cells read whole, and small laws on worlds that only grow. No condition.
-/
import Derived.WalkKit
import Derived.WalkSpells
import Derived.WalkLawsBesides
import Derived.Deep.Light
import Derived.Deep.RegionHeld3
import Derived.Deep.MidRow
import Derived.Lib.Hide
namespace Go.Proofs.Ytfepckbhnghpeaa
open Go.RowKit

theorem ret_int {k : IntKind} {a b : Int} (h : a = b) : Ending.returned (.int k a) = .returned (.int k b) := by rw [h]
theorem ret_bool {a b : Bool} (h : a = b) : Ending.returned (.bool a) = .returned (.bool b) := by rw [h]

def rowSem (ty : TypeId) (v : Value) : Sem Value := Instr.loadAt ty v

theorem rowSem_range {P : Program} {ty : TypeId} {b o : Nat} {w : World} {cs : List Value} {d : TypeDesc} (hc : w.rangeAt b o cs)
    (hu : P.underlying ty = some d) (hd : d.isRow = true) (hi : (P.info? ty).map (·.size) = some cs.length) : (rowSem ty (.pointer (some ⟨b, o, none⟩))).run P w = .ok (.agg cs.toArray) w :=
  run_loadAt_mid w b o ty cs d hc hu hd hi

theorem below_next {B : Nat} {w w1 w2 : World} (h : Below B w w1) (hB : B ≤ w.heap.size) (hb : Below w1.heap.size w1 w2) : Below B w w2 := h.trans (hb.mono (Nat.le_trans hB h.size))
theorem range_below {w w' : World} {b o : Nat} {cs : List Value} (hb : Below w.heap.size w w') (h : w.rangeAt b o cs) : w'.rangeAt b o cs := fun j v hv => by
  have := h j v hv
  rw [hb.cell (World.block_lt_of_cell? w _ this)]; exact this

theorem range_all (w : World) (cs : Array Value) (t : TypeId) : (w.alloc (.cells cs t)).rangeAt w.heap.size 0 cs.toList := fun j v hv => by
  rw [Nat.zero_add, World.cell?_alloc_mark]; simpa using hv

end Go.Proofs.Ytfepckbhnghpeaa
