/-
  Rows of ranges, of numbers, that come in. No condition.
-/
import Derived.Test.YtclkaacdbhbigaaLaw
import Derived.Test.YtclkaacdbhbigaaReads
import Derived.Test.YtclkaacdbhbigaaK2
namespace Go.Proofs.Ytclkaacdbhbigaa.V
open Go.ChangeShapes Go.WideShapes Go.ChangeAt Go.RowKit Sp

def rgV (r : Rg) : List Value := [.int .u32 r.fr, .int .u32 r.len]
def intsV (n : Int) : List Value := [.int .i64 n]
instance : Inhabited Rg := ⟨⟨0, 0⟩⟩

theorem okWide_len {P : Program} {w : World} {r : Reach} {base : Nat} {t e : TypeId} {p : Option Addr} {n c : Nat} (ht : P.underlying t = some (.slice e)) (h : Value.okWide P w r base t (.slice p n c)) : n ≤ 9223372036854775807 := by
  unfold Value.okWide at h
  rw [ht] at h
  simp only at h
  unfold Cell.okWide at h
  rw [ht] at h
  simp only at h
  unfold Cell.ok at h
  rw [ht] at h
  have hm : IntKind.i64.max = 9223372036854775807 := by decide
  cases p with
  | none =>
    match n, c, h with
    | 0, 0, _ => exact Nat.zero_le _
  | some a =>
    simp only at h
    obtain ⟨h1, h2, _⟩ := h
    rw [hm] at h2
    omega
theorem rows_len {C : Ctx} {α : Type} {e : Nat} {enc : α → List D} {L : List α} {p : Option Addr} {n c : Nat} (h : Rep C (.rows α e enc L) (.slice p n c)) : L.length = n := by
  generalize hv : Value.slice p n c = v at h
  cases h
  injection hv with _ h2 _
  exact h2.symm

section
variable {H : Type} {enc : TypeId × Value → H} {W : World}
theorem rg_elem {fuel : Nat} {cs : List Value} {x : DataW H × List MemPlace} (h : DataW.trod enc Try.prog W 0 (fun _ => true) true fuel 32 cs = some x) :
    ∃ d : Rg, d.ok ∧ ∀ (j : Nat) (c : Value), (rgV d)[j]? = some c → cs[j]? = some c := by
  obtain ⟨z, hz⟩ := trod_kinds (d := 4) [.u32, .u32] (by kernel_rfl) h
  refine ⟨⟨z 0, z 1⟩, ⟨wf_u32 (hz 0 _ rfl).2, wf_u32 (hz 1 _ rfl).2⟩, ?_⟩
  intro j c hj
  match j, hj with
  | 0, hj => simp [rgV] at hj; subst hj; exact (hz 0 _ rfl).1
  | 1, hj => simp [rgV] at hj; subst hj; exact (hz 1 _ rfl).1
  | n + 2, hj => simp [rgV] at hj
theorem int_elem {fuel : Nat} {cs : List Value} {x : DataW H × List MemPlace} (h : DataW.trod enc Try.prog W 0 (fun _ => true) true fuel 3 cs = some x) :
    ∃ d : Int, True ∧ ∀ (j : Nat) (c : Value), (intsV d)[j]? = some c → cs[j]? = some c := by
  obtain ⟨n, rfl, _, _⟩ := DataW.trod_int Try.underlying3 h
  exact ⟨n, trivial, fun j c hj => hj⟩
end
end Go.Proofs.Ytclkaacdbhbigaa.V
