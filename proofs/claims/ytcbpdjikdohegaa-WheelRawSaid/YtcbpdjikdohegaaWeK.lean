/-
  Rows of alarms that come in. No condition.
-/
import Derived.Test.YtcbpdjikdohegaaLaw
import Derived.Test.YtcbpdjikdohegaaReads
import Derived.Test.YtcbpdjikdohegaaWcK
namespace Go.Proofs.Ytcbpdjikdohegaa.V
open Go.ChangeShapes Go.WideShapes Go.ChangeAt Go.RowKit

def alV (x : Al) : List Value := [.int .i64 x.id, .int .i64 x.at_]
instance : Inhabited Al := ⟨⟨0, 0⟩⟩
/-- An alarm whose numbers are of their types. -/
def Al.ok (x : Al) : Prop := -9223372036854775808 ≤ x.at_ ∧ x.at_ ≤ 9223372036854775807

section
variable {H : Type} {enc : TypeId × Value → H} {W : World}
theorem al_elem {fuel : Nat} {cs : List Value} {x : DataW H × List MemPlace} (h : DataW.trod enc Try.prog W 0 (fun _ => true) true fuel 58 cs = some x) :
    ∃ d : Al, d.ok ∧ ∀ (j : Nat) (c : Value), (alV d)[j]? = some c → cs[j]? = some c := by
  obtain ⟨z, hz⟩ := trod_kinds (d := 4) [.i64, .i64] (by kernel_rfl) h
  refine ⟨⟨z 0, z 1⟩, wf_i64 (hz 1 _ rfl).2, ?_⟩
  intro j c hj
  match j, hj with
  | 0, hj => simp [alV] at hj; subst hj; exact (hz 0 _ rfl).1
  | 1, hj => simp [alV] at hj; subst hj; exact (hz 1 _ rfl).1
  | n + 2, hj => simp [alV] at hj
end
end Go.Proofs.Ytcbpdjikdohegaa.V
