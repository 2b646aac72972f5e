/-
  Rows of deeds with a set, that come in. No condition.
-/
import Derived.Test.YtclkaacdbhbigaaPrK
import Derived.Test.YtclkaacdbhbigaaK3
namespace Go.Proofs.Ytclkaacdbhbigaa.V
open Go.ChangeShapes Go.WideShapes Go.ChangeAt Go.RowKit Sp

def sdeedV (d : SDeed) : List Value := [.int .i64 d.kind, .int .u32 d.r.fr, .int .u32 d.r.len]
def SDeed.ok (d : SDeed) : Prop := d.r.ok
instance : Inhabited SDeed := ⟨⟨0, ⟨0, 0⟩⟩⟩
section
variable {H : Type} {enc : TypeId × Value → H} {W : World}
theorem sdeed_elem {fuel : Nat} {cs : List Value} {x : DataW H × List MemPlace} (h : DataW.trod enc Try.prog W 0 (fun _ => true) true fuel 34 cs = some x) :
    ∃ d : SDeed, d.ok ∧ ∀ (j : Nat) (c : Value), (sdeedV d)[j]? = some c → cs[j]? = some c := by
  obtain ⟨z, hz⟩ := trod_kinds (d := 4) [.i64, .u32, .u32] (by kernel_rfl) h
  refine ⟨⟨z 0, ⟨z 1, z 2⟩⟩, ⟨wf_u32 (hz 1 _ rfl).2, wf_u32 (hz 2 _ rfl).2⟩, ?_⟩
  intro j c hj
  match j, hj with
  | 0, hj => simp [sdeedV] at hj; subst hj; exact (hz 0 _ rfl).1
  | 1, hj => simp [sdeedV] at hj; subst hj; exact (hz 1 _ rfl).1
  | 2, hj => simp [sdeedV] at hj; subst hj; exact (hz 2 _ rfl).1
  | n + 3, hj => simp [sdeedV] at hj
end
end Go.Proofs.Ytclkaacdbhbigaa.V
