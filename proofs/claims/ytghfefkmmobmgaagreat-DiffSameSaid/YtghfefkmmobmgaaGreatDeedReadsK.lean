/-
  Deeds that come in, read by value. No condition beyond the reading.
-/
import Derived.Test.YtghfefkmmobmgaaGreatReads
import Derived.Test.YtghfefkmmobmgaaGreatK1
namespace Go.Proofs.YtghfefkmmobmgaaGreat.V
open Go.ChangeShapes Go.WideShapes Go.ChangeAt Go.RowKit

def deedV (d : Deed) : List Value := [.int .i64 d.kind, .int .i64 d.v.id, .int .u32 d.v.addr, .int .u16 d.v.port, .int .u8 d.v.proto, .int .i64 d.v.mode,
  .int .i64 d.b.id, .int .i64 d.b.vip, .int .u32 d.b.addr, .int .i64 d.b.weight, .int .i64 d.b.life, .bool d.b.up, .int .i64 d.n]

instance : Inhabited Deed := ⟨⟨0, ⟨0, 0, 0, 0, 0⟩, ⟨0, 0, 0, 0, 0, false⟩, 0⟩⟩

section
variable {H : Type} {enc : TypeId × Value → H} {W : World}
theorem deed_elem {fuel : Nat} {cs : List Value} {x : DataW H × List MemPlace} (h : DataW.trod enc Tryz.prog W 0 (fun _ => true) true fuel 52 cs = some x) :
    ∃ d : Deed, d.ok ∧ ∀ (j : Nat) (c : Value), (deedV d)[j]? = some c → cs[j]? = some c := by
  obtain ⟨z, hz⟩ := trod_kinds (d := 4) [.i64, .i64, .u32, .u16, .u8, .i64, .i64, .i64, .u32, .i64, .i64] (by kernel_rfl) h
  obtain ⟨v11, f11, y11, h11, g11⟩ := trod_cell 4 _ 4 11 _ _ _ h (by kernel_rfl)
  obtain ⟨b, e1, _⟩ := DataW.trod_bool Tryz.underlying4 g11
  simp only [List.cons.injEq, and_true] at e1
  subst e1
  obtain ⟨n, h12, _⟩ := trod_cell_int (d := 4) (off := 12) h (show cellAt Tryz.prog 4 52 12 = some 3 by kernel_rfl) Tryz.underlying3
  refine ⟨⟨z 0, ⟨z 1, z 2, z 3, z 4, z 5⟩, ⟨z 6, z 7, z 8, z 9, z 10, b⟩, n⟩, ⟨⟨wf_i64 (hz 1 _ rfl).2, wf_u32 (hz 2 _ rfl).2, wf_u16 (hz 3 _ rfl).2, wf_u8 (hz 4 _ rfl).2, wf_i64 (hz 5 _ rfl).2⟩, ⟨wf_i64 (hz 6 _ rfl).2, wf_u32 (hz 8 _ rfl).2⟩⟩, ?_⟩
  intro j c hj
  match j, hj with
  | 0, hj => simp [deedV] at hj; subst hj; exact (hz 0 _ rfl).1
  | 1, hj => simp [deedV] at hj; subst hj; exact (hz 1 _ rfl).1
  | 2, hj => simp [deedV] at hj; subst hj; exact (hz 2 _ rfl).1
  | 3, hj => simp [deedV] at hj; subst hj; exact (hz 3 _ rfl).1
  | 4, hj => simp [deedV] at hj; subst hj; exact (hz 4 _ rfl).1
  | 5, hj => simp [deedV] at hj; subst hj; exact (hz 5 _ rfl).1
  | 6, hj => simp [deedV] at hj; subst hj; exact (hz 6 _ rfl).1
  | 7, hj => simp [deedV] at hj; subst hj; exact (hz 7 _ rfl).1
  | 8, hj => simp [deedV] at hj; subst hj; exact (hz 8 _ rfl).1
  | 9, hj => simp [deedV] at hj; subst hj; exact (hz 9 _ rfl).1
  | 10, hj => simp [deedV] at hj; subst hj; exact (hz 10 _ rfl).1
  | 11, hj => simp [deedV] at hj; subst hj; exact h11
  | 12, hj => simp [deedV] at hj; subst hj; exact h12
  | n + 13, hj => simp [deedV] at hj
end
end Go.Proofs.YtghfefkmmobmgaaGreat.V
