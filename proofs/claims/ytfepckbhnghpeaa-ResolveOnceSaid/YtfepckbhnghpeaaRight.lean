/-
  Which configurations may be (layer 25): route.Right. Conditions: the configuration's cells are numbers of their kinds.
-/
import Derived.Test.YtfepckbhnghpeaaNear
import Derived.Test.YtfepckbhnghpeaaMac
import Derived.Test.YtfepckbhnghpeaaPrime
import Derived.Deep.DeepCutAuto
namespace Go.Proofs.Ytfepckbhnghpeaa
open Go.RowKit

def ticksF (z : Nat → Int) (i : Nat) : Int := [z 29, z 30, z 32, z 33, z 34, z 35, z 36, z 37].getD i 0
def timesF (z : Nat → Int) (i : Nat) : Int := [z 31, z 38, z 39].getD i 0
def uni0 (z : Nat → Int) : Bool := uniB (z 0) (z 1) (z 2) (z 3) (z 4) (z 5)
def uni1 (z : Nat → Int) : Bool := uniB (z 6) (z 7) (z 8) (z 9) (z 10) (z 11)
def macsEq (z : Nat → Int) : Bool := macEq (z 0) (z 1) (z 2) (z 3) (z 4) (z 5) (z 6) (z 7) (z 8) (z 9) (z 10) (z 11)
attribute [local go_sem ↓] config_veil

theorem conf_cell {cs : Array Value} {z : Nat → Int} {w w' : World} (hz : IsConf cs z) (hb : Below (w.alloc (.cells cs 33)).heap.size (w.alloc (.cells cs 33)) w') (i : Nat) (k : IntKind) (hk : confKs[i]? = some k) :
    w'.cell? ⟨w.heap.size, i, none⟩ = some (Value.int k (z i)) := by
  rw [hb.cell (by simp), World.cell?_alloc_mark]
  exact hz.cell i k hk

end Go.Proofs.Ytfepckbhnghpeaa
