/-
  Farms that come in, read by value. No condition beyond the reading.
-/
import Derived.Test.YtghfefkmmobmgaaReads
import Derived.Test.YtghfefkmmobmgaaK1
namespace Go.Proofs.Ytghfefkmmobmgaa.V
open Go.ChangeShapes Go.WideShapes Go.ChangeAt Go.RowKit

def vipVals (v : Vip) : List Value := [.int .i64 v.id, .int .u32 v.addr, .int .u16 v.port, .int .u8 v.proto, .int .i64 v.mode]
def backVals (b : Back) : List Value := [.int .i64 b.id, .int .i64 b.vip, .int .u32 b.addr, .int .i64 b.weight, .int .i64 b.life, .bool b.up]
instance : Inhabited Vip := ⟨⟨0, 0, 0, 0, 0⟩⟩
instance : Inhabited Back := ⟨⟨0, 0, 0, 0, 0, false⟩⟩

section
variable {H : Type} {enc : TypeId × Value → H} {W : World}
theorem vip_read {fuel : Nat} {cs : List Value} {x : DataW H × List MemPlace} (h : DataW.trod enc Try.prog W 0 (fun _ => true) true fuel 45 cs = some x) :
    ∃ v : Vip, v.ok ∧ ∀ (j : Nat) (c : Value), (vipVals v)[j]? = some c → cs[j]? = some c := by
  obtain ⟨z, hz⟩ := trod_kinds (d := 3) [.i64, .u32, .u16, .u8, .i64] (by kernel_rfl) h
  refine ⟨⟨z 0, z 1, z 2, z 3, z 4⟩, ⟨wf_i64 (hz 0 _ rfl).2, wf_u32 (hz 1 _ rfl).2, wf_u16 (hz 2 _ rfl).2, wf_u8 (hz 3 _ rfl).2, wf_i64 (hz 4 _ rfl).2⟩, ?_⟩
  intro j c hj
  match j, hj with
  | 0, hj => simp [vipVals] at hj; subst hj; exact (hz 0 _ rfl).1
  | 1, hj => simp [vipVals] at hj; subst hj; exact (hz 1 _ rfl).1
  | 2, hj => simp [vipVals] at hj; subst hj; exact (hz 2 _ rfl).1
  | 3, hj => simp [vipVals] at hj; subst hj; exact (hz 3 _ rfl).1
  | 4, hj => simp [vipVals] at hj; subst hj; exact (hz 4 _ rfl).1
  | n + 5, hj => simp [vipVals] at hj

theorem back_read {fuel : Nat} {cs : List Value} {x : DataW H × List MemPlace} (h : DataW.trod enc Try.prog W 0 (fun _ => true) true fuel 50 cs = some x) :
    ∃ v : Back, v.ok ∧ ∀ (j : Nat) (c : Value), (backVals v)[j]? = some c → cs[j]? = some c := by
  obtain ⟨z, hz⟩ := trod_kinds (d := 3) [.i64, .i64, .u32, .i64, .i64] (by kernel_rfl) h
  obtain ⟨v5, f5, y5, h5, h6⟩ := trod_cell 3 _ 4 5 _ _ _ h (by kernel_rfl)
  obtain ⟨b, e1, _⟩ := DataW.trod_bool Try.underlying4 h6
  simp only [List.cons.injEq, and_true] at e1
  subst e1
  refine ⟨⟨z 0, z 1, z 2, z 3, z 4, b⟩, ⟨wf_i64 (hz 0 _ rfl).2, wf_u32 (hz 2 _ rfl).2⟩, ?_⟩
  intro j c hj
  match j, hj with
  | 0, hj => simp [backVals] at hj; subst hj; exact (hz 0 _ rfl).1
  | 1, hj => simp [backVals] at hj; subst hj; exact (hz 1 _ rfl).1
  | 2, hj => simp [backVals] at hj; subst hj; exact (hz 2 _ rfl).1
  | 3, hj => simp [backVals] at hj; subst hj; exact (hz 3 _ rfl).1
  | 4, hj => simp [backVals] at hj; subst hj; exact (hz 4 _ rfl).1
  | 5, hj => simp [backVals] at hj; subst hj; exact h5
  | n + 6, hj => simp [backVals] at hj

set_option maxRecDepth 100000 in
theorem farm_read {base : Nat} {v : Value} {d : DataW H} {ps : List MemPlace} (hval : Value.okWide Try.prog W .any base 29 v) (h : DataW.Trod enc Try.prog W 0 (fun _ => true) true 29 v d ps) :
    ∃ V B, Rep (baseCtx W fun b => b < W.heap.size) (farmD V B) v ∧ (∀ v ∈ V, v.ok) ∧ ∀ b ∈ B, b.ok := by
  obtain ⟨cs, rfl, hn⟩ := okWide_struct Try.underlying29 hval
  obtain ⟨fuel, hf⟩ := h
  have hn2 : cs.size = 2 := hn.trans (by kernel_rfl)
  simp only [Value.cells] at hf
  obtain ⟨s0, f0, y0, g0, k0⟩ := trod_cell 2 _ 26 0 _ _ _ hf (by kernel_rfl)
  obtain ⟨s1, f1, y1, g1, k1⟩ := trod_cell 2 _ 27 1 _ _ _ hf (by kernel_rfl)
  obtain ⟨V, r0, o0⟩ := rows_read (encD := vipD) (encV := vipVals) (k := 5) (ok := Vip.ok) (fun _ => rfl) Try.underlying26 (by kernel_rfl) (by decide) (fun _ => rfl) (fun _ _ _ h => vip_read h) k0
  obtain ⟨B, r1, o1⟩ := rows_read (encD := backD) (encV := backVals) (k := 6) (ok := Back.ok) (fun _ => rfl) Try.underlying27 (by kernel_rfl) (by decide) (fun _ => rfl) (fun _ _ _ h => back_read h) k1
  refine ⟨V, B, .agg (by simpa using hn2) fun j d u hd hu => ?_, o0, o1⟩
  match j, hd, hu with
  | 0, hd, hu => simp only [List.getElem?_cons_zero, Option.some.injEq] at hd; subst hd; rw [← Array.getElem?_toList, g0] at hu; injection hu with hu; subst hu; exact r0
  | 1, hd, hu => simp only [List.getElem?_cons_succ, List.getElem?_cons_zero, Option.some.injEq] at hd; subst hd; rw [← Array.getElem?_toList, g1] at hu; injection hu with hu; subst hu; exact r1
end
end Go.Proofs.Ytghfefkmmobmgaa.V
