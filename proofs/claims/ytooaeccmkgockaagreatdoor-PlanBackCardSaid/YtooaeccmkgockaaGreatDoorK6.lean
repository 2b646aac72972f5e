/-
  Orders that come in, read by value. No condition beyond the reading.
  Deeds that come in, read by value. No condition beyond the reading.
  Farms that come in, read by value. No condition beyond the reading.
-/
import Derived.Test.YtooaeccmkgockaaGreatDoorReads
import Derived.Test.YtooaeccmkgockaaGreatDoorK3
import Derived.Test.YtooaeccmkgockaaGreatDoorK2
namespace Go.Proofs.YtooaeccmkgockaaGreatDoor.V
open Go.ChangeShapes Go.WideShapes Go.ChangeAt Go.RowKit

instance : Inhabited Ord := ⟨⟨0, 0, 0, 0, 0, 0, 0, 0⟩⟩
end Go.Proofs.YtooaeccmkgockaaGreatDoor.V
namespace Go.Proofs.YtooaeccmkgockaaGreatDoor.V
open Go.ChangeShapes Go.WideShapes Go.ChangeAt Go.RowKit

def deedV (d : Deed) : List Value := [.int .i64 d.kind, .int .i64 d.v.id, .int .u32 d.v.addr, .int .u16 d.v.port, .int .u8 d.v.proto, .int .i64 d.v.mode,
  .int .i64 d.b.id, .int .i64 d.b.vip, .int .u32 d.b.addr, .int .i64 d.b.weight, .int .i64 d.b.life, .bool d.b.up, .int .i64 d.n]

instance : Inhabited Deed := ⟨⟨0, ⟨0, 0, 0, 0, 0⟩, ⟨0, 0, 0, 0, 0, false⟩, 0⟩⟩

section
variable {H : Type} {enc : TypeId × Value → H} {W : World}
theorem deed_elem {fuel : Nat} {cs : List Value} {x : DataW H × List MemPlace} (h : DataW.trod enc Tryz.prog W 0 (fun _ => true) true fuel 84 cs = some x) :
    ∃ d : Deed, d.ok ∧ ∀ (j : Nat) (c : Value), (deedV d)[j]? = some c → cs[j]? = some c := by
  obtain ⟨z, hz⟩ := trod_kinds (d := 4) [.i64, .i64, .u32, .u16, .u8, .i64, .i64, .i64, .u32, .i64, .i64] (by kernel_rfl) h
  obtain ⟨v11, f11, y11, h11, g11⟩ := trod_cell 4 _ 4 11 _ _ _ h (by kernel_rfl)
  obtain ⟨b, e1, _⟩ := DataW.trod_bool Tryz.underlying4 g11
  simp only [List.cons.injEq, and_true] at e1
  subst e1
  obtain ⟨n, h12, _⟩ := trod_cell_int (d := 4) (off := 12) h (show cellAt Tryz.prog 4 84 12 = some 3 by kernel_rfl) Tryz.underlying3
  refine ⟨⟨z 0, ⟨z 1, z 2, z 3, z 4, z 5⟩, ⟨z 6, z 7, z 8, z 9, z 10, b⟩, n⟩, ⟨⟨wf_i64 (hz 1 _ rfl).2, wf_u32 (hz 2 _ rfl).2, wf_u16 (hz 3 _ rfl).2, wf_u8 (hz 4 _ rfl).2, wf_i64 (hz 5 _ rfl).2⟩, ⟨wf_i64 (hz 6 _ rfl).2, wf_u32 (hz 8 _ rfl).2⟩⟩, ?_⟩
  intro j c hj
  match j, hj with
  | 0, hj => simp [deedV] at hj; subst hj; exact (hz 0 _ rfl).1
  | 1, hj => simp [deedV] at hj; subst hj; exact (hz 1 _ rfl).1
  | 2, hj => simp [deedV] at hj; subst hj; exact (hz 2 _ rfl).1
  | 3, hj => simp [deedV] at hj; subst hj; exact (hz 3 _ rfl).1
  | 4, hj => simp [deedV] at hj; subst hj; exact (hz 4 _ rfl).1
  | 5, hj => simp [deedV] at hj; subst hj; exact (hz 5 _ rfl).1
  | 6, hj => simp [deedV] at hj; subst hj; exact (hz 6 _ rfl).1
  | 7, hj => simp [deedV] at hj; subst hj; exact (hz 7 _ rfl).1
  | 8, hj => simp [deedV] at hj; subst hj; exact (hz 8 _ rfl).1
  | 9, hj => simp [deedV] at hj; subst hj; exact (hz 9 _ rfl).1
  | 10, hj => simp [deedV] at hj; subst hj; exact (hz 10 _ rfl).1
  | 11, hj => simp [deedV] at hj; subst hj; exact h11
  | 12, hj => simp [deedV] at hj; subst hj; exact h12
  | n + 13, hj => simp [deedV] at hj
end
end Go.Proofs.YtooaeccmkgockaaGreatDoor.V
namespace Go.Proofs.YtooaeccmkgockaaGreatDoor.V
open Go.ChangeShapes Go.WideShapes Go.ChangeAt Go.RowKit

def vipVals (v : Vip) : List Value := [.int .i64 v.id, .int .u32 v.addr, .int .u16 v.port, .int .u8 v.proto, .int .i64 v.mode]
def backVals (b : Back) : List Value := [.int .i64 b.id, .int .i64 b.vip, .int .u32 b.addr, .int .i64 b.weight, .int .i64 b.life, .bool b.up]
instance : Inhabited Vip := ⟨⟨0, 0, 0, 0, 0⟩⟩
instance : Inhabited Back := ⟨⟨0, 0, 0, 0, 0, false⟩⟩

section
variable {H : Type} {enc : TypeId × Value → H} {W : World}
theorem vip_read {fuel : Nat} {cs : List Value} {x : DataW H × List MemPlace} (h : DataW.trod enc Tryz.prog W 0 (fun _ => true) true fuel 79 cs = some x) :
    ∃ v : Vip, v.ok ∧ ∀ (j : Nat) (c : Value), (vipVals v)[j]? = some c → cs[j]? = some c := by
  obtain ⟨z, hz⟩ := trod_kinds (d := 3) [.i64, .u32, .u16, .u8, .i64] (by kernel_rfl) h
  refine ⟨⟨z 0, z 1, z 2, z 3, z 4⟩, ⟨wf_i64 (hz 0 _ rfl).2, wf_u32 (hz 1 _ rfl).2, wf_u16 (hz 2 _ rfl).2, wf_u8 (hz 3 _ rfl).2, wf_i64 (hz 4 _ rfl).2⟩, ?_⟩
  intro j c hj
  match j, hj with
  | 0, hj => simp [vipVals] at hj; subst hj; exact (hz 0 _ rfl).1
  | 1, hj => simp [vipVals] at hj; subst hj; exact (hz 1 _ rfl).1
  | 2, hj => simp [vipVals] at hj; subst hj; exact (hz 2 _ rfl).1
  | 3, hj => simp [vipVals] at hj; subst hj; exact (hz 3 _ rfl).1
  | 4, hj => simp [vipVals] at hj; subst hj; exact (hz 4 _ rfl).1
  | n + 5, hj => simp [vipVals] at hj

theorem back_read {fuel : Nat} {cs : List Value} {x : DataW H × List MemPlace} (h : DataW.trod enc Tryz.prog W 0 (fun _ => true) true fuel 81 cs = some x) :
    ∃ v : Back, v.ok ∧ ∀ (j : Nat) (c : Value), (backVals v)[j]? = some c → cs[j]? = some c := by
  obtain ⟨z, hz⟩ := trod_kinds (d := 3) [.i64, .i64, .u32, .i64, .i64] (by kernel_rfl) h
  obtain ⟨v5, f5, y5, h5, h6⟩ := trod_cell 3 _ 4 5 _ _ _ h (by kernel_rfl)
  obtain ⟨b, e1, _⟩ := DataW.trod_bool Tryz.underlying4 h6
  simp only [List.cons.injEq, and_true] at e1
  subst e1
  refine ⟨⟨z 0, z 1, z 2, z 3, z 4, b⟩, ⟨wf_i64 (hz 0 _ rfl).2, wf_u32 (hz 2 _ rfl).2⟩, ?_⟩
  intro j c hj
  match j, hj with
  | 0, hj => simp [backVals] at hj; subst hj; exact (hz 0 _ rfl).1
  | 1, hj => simp [backVals] at hj; subst hj; exact (hz 1 _ rfl).1
  | 2, hj => simp [backVals] at hj; subst hj; exact (hz 2 _ rfl).1
  | 3, hj => simp [backVals] at hj; subst hj; exact (hz 3 _ rfl).1
  | 4, hj => simp [backVals] at hj; subst hj; exact (hz 4 _ rfl).1
  | 5, hj => simp [backVals] at hj; subst hj; exact h5
  | n + 6, hj => simp [backVals] at hj

set_option maxRecDepth 100000 in
theorem farm_read {base : Nat} {v : Value} {d : DataW H} {ps : List MemPlace} (hval : Value.okWide Tryz.prog W .any base 45 v) (h : DataW.Trod enc Tryz.prog W 0 (fun _ => true) true 45 v d ps) :
    ∃ V B, Rep (baseCtx W fun b => b < W.heap.size) (farmD V B) v ∧ (∀ v ∈ V, v.ok) ∧ ∀ b ∈ B, b.ok := by
  obtain ⟨cs, rfl, hn⟩ := okWide_struct Tryz.underlying45 hval
  obtain ⟨fuel, hf⟩ := h
  have hn2 : cs.size = 2 := hn.trans (by kernel_rfl)
  simp only [Value.cells] at hf
  obtain ⟨s0, f0, y0, g0, k0⟩ := trod_cell 2 _ 42 0 _ _ _ hf (by kernel_rfl)
  obtain ⟨s1, f1, y1, g1, k1⟩ := trod_cell 2 _ 43 1 _ _ _ hf (by kernel_rfl)
  obtain ⟨V, r0, o0⟩ := rows_read (encD := vipD) (encV := vipVals) (k := 5) (ok := Vip.ok) (fun _ => rfl) Tryz.underlying42 (by kernel_rfl) (by decide) (fun _ => rfl) (fun _ _ _ h => vip_read h) k0
  obtain ⟨B, r1, o1⟩ := rows_read (encD := backD) (encV := backVals) (k := 6) (ok := Back.ok) (fun _ => rfl) Tryz.underlying43 (by kernel_rfl) (by decide) (fun _ => rfl) (fun _ _ _ h => back_read h) k1
  refine ⟨V, B, .agg (by simpa using hn2) fun j d u hd hu => ?_, o0, o1⟩
  match j, hd, hu with
  | 0, hd, hu => simp only [List.getElem?_cons_zero, Option.some.injEq] at hd; subst hd; rw [← Array.getElem?_toList, g0] at hu; injection hu with hu; subst hu; exact r0
  | 1, hd, hu => simp only [List.getElem?_cons_succ, List.getElem?_cons_zero, Option.some.injEq] at hd; subst hd; rw [← Array.getElem?_toList, g1] at hu; injection hu with hu; subst hu; exact r1
end
end Go.Proofs.YtooaeccmkgockaaGreatDoor.V
