/-
  Rows of deeds that come in. No condition.
-/
import Derived.Test.YtcbpdjikdohegaaLaw
import Derived.Test.YtcbpdjikdohegaaReads
import Derived.Test.YtcbpdjikdohegaaOcK
namespace Go.Proofs.Ytcbpdjikdohegaa.V
open Go.ChangeShapes Go.WideShapes Go.ChangeAt Go.RowKit

def deV (x : De) : List Value := [.int .i64 x.kind, .int .i64 x.id, .int .i64 x.at_]
instance : Inhabited De := ⟨⟨0, 0, 0⟩⟩

section
variable {H : Type} {enc : TypeId × Value → H} {W : World}
theorem de_elem {fuel : Nat} {cs : List Value} {x : DataW H × List MemPlace} (h : DataW.trod enc Try.prog W 0 (fun _ => true) true fuel 65 cs = some x) :
    ∃ d : De, True ∧ ∀ (j : Nat) (c : Value), (deV d)[j]? = some c → cs[j]? = some c := by
  obtain ⟨z, hz⟩ := trod_kinds (d := 4) [.i64, .i64, .i64] (by kernel_rfl) h
  refine ⟨⟨z 0, z 1, z 2⟩, trivial, ?_⟩
  intro j c hj
  match j, hj with
  | 0, hj => simp [deV] at hj; subst hj; exact (hz 0 _ rfl).1
  | 1, hj => simp [deV] at hj; subst hj; exact (hz 1 _ rfl).1
  | 2, hj => simp [deV] at hj; subst hj; exact (hz 2 _ rfl).1
  | n + 3, hj => simp [deV] at hj
end
end Go.Proofs.Ytcbpdjikdohegaa.V
