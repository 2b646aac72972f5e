/-
  Steps of filters, packets, that come in, read by value. No condition beyond the reading. (printed by gen_fih.py)
-/
import Derived.Test.YtfghccppoilfhaaLaw
import Derived.Test.YtfghccppoilfhaaReads
import Derived.Test.YtfghccppoilfhaaK6
namespace Go.Proofs.Ytfghccppoilfhaa.V
open Go.ChangeShapes Go.WideShapes Go.ChangeAt Go.RowKit Go.Deep

section
variable {H : Type} {enc : TypeId × Value → H} {W : World}
theorem wfU32 {n : Int} (h : (Lit.int .u32 n).wf = true) : 0 ≤ n ∧ n < 4294967296 := by
  simp [Lit.wf, IntKind.min, IntKind.max, IntKind.signed, IntKind.bits] at h; omega
instance : Inhabited FSt := ⟨⟨0, 0, 0⟩⟩
def fstV (x : FSt) : List Value := [.int .i64 x.op, .int .u32 x.addr, .int .i64 x.num]
theorem fst_elem {fuel : Nat} {cs : List Value} {x : DataW H × List MemPlace} (h : DataW.trod enc Try.prog W 0 (fun _ => true) true fuel 37 cs = some x) :
    ∃ a : FSt, a.addr < 4294967296 ∧ ∀ (j : Nat) (c : Value), (fstV a)[j]? = some c → cs[j]? = some c := by
  obtain ⟨z0, h0, w0⟩ := trod_cell_int (d := 3) (off := 0) (k := .i64) h (by kernel_rfl) Try.underlying3
  obtain ⟨z1, h1, w1⟩ := trod_cell_int (d := 3) (off := 1) (k := .u32) h (by kernel_rfl) Try.underlying35
  obtain ⟨z2, h2, w2⟩ := trod_cell_int (d := 3) (off := 2) (k := .i64) h (by kernel_rfl) Try.underlying3
  have b1 := wfU32 w1
  have e1 : ((z1.toNat : Nat) : Int) = z1 := by omega
  refine ⟨⟨z0, z1.toNat, z2⟩, by show z1.toNat < _; omega, fun j c hj => ?_⟩
  match j, hj with
  | 0, hj => injection hj with hj; subst hj; exact h0
  | 1, hj => injection hj with hj; subst hj; show cs[1]? = some (.int .u32 ((z1.toNat : Nat) : Int)); rw [e1]; exact h1
  | 2, hj => injection hj with hj; subst hj; exact h2
  | n + 3, hj => simp [fstV] at hj
end
end Go.Proofs.Ytfghccppoilfhaa.V
