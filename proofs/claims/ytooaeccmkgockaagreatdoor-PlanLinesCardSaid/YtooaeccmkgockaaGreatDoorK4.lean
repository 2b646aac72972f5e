/-
  Orders that come in, read by value. No condition beyond the reading.
  An order that comes in, read by value. No condition beyond the reading.
-/
import Derived.Test.YtooaeccmkgockaaGreatDoorReads
import Derived.Test.YtooaeccmkgockaaGreatDoorK3
namespace Go.Proofs.YtooaeccmkgockaaGreatDoor.V
open Go.ChangeShapes Go.WideShapes Go.ChangeAt Go.RowKit

def ordVals (o : Ord) : List Value := [.int .u64 o.count, .int .i64 o.op, .int .i64 o.id, .int .i64 o.vip, .int .u32 o.addr, .int .u16 o.port, .int .u8 o.proto, .int .i64 o.num]
instance : Inhabited Ord := ⟨⟨0, 0, 0, 0, 0, 0, 0, 0⟩⟩
theorem ord_read {H : Type} {enc : TypeId × Value → H} {W : World} {fuel : Nat} {cs : List Value} {x : DataW H × List MemPlace} (h : DataW.trod enc Tryz.prog W 0 (fun _ => true) true fuel 26 cs = some x) :
    ∃ v : Ord, v.ok ∧ ∀ (j : Nat) (c : Value), (ordVals v)[j]? = some c → cs[j]? = some c := by
  obtain ⟨z, hz⟩ := trod_kinds (d := 3) [.u64, .i64, .i64, .i64, .u32, .u16, .u8, .i64] (by kernel_rfl) h
  refine ⟨⟨z 0, z 1, z 2, z 3, z 4, z 5, z 6, z 7⟩, ⟨bounds_u64 (hz 0 _ rfl).2, wf_i64 (hz 2 _ rfl).2, wf_i64 (hz 3 _ rfl).2, wf_u32 (hz 4 _ rfl).2, wf_u16 (hz 5 _ rfl).2, wf_u8 (hz 6 _ rfl).2, wf_i64 (hz 7 _ rfl).2⟩, ?_⟩
  intro j c hj
  match j, hj with
  | 0, hj => simp [ordVals] at hj; subst hj; exact (hz 0 _ rfl).1
  | 1, hj => simp [ordVals] at hj; subst hj; exact (hz 1 _ rfl).1
  | 2, hj => simp [ordVals] at hj; subst hj; exact (hz 2 _ rfl).1
  | 3, hj => simp [ordVals] at hj; subst hj; exact (hz 3 _ rfl).1
  | 4, hj => simp [ordVals] at hj; subst hj; exact (hz 4 _ rfl).1
  | 5, hj => simp [ordVals] at hj; subst hj; exact (hz 5 _ rfl).1
  | 6, hj => simp [ordVals] at hj; subst hj; exact (hz 6 _ rfl).1
  | 7, hj => simp [ordVals] at hj; subst hj; exact (hz 7 _ rfl).1
  | n + 8, hj => simp [ordVals] at hj
end Go.Proofs.YtooaeccmkgockaaGreatDoor.V
namespace Go.Proofs.YtooaeccmkgockaaGreatDoor.V
open Go.ChangeShapes Go.WideShapes Go.ChangeAt Go.RowKit

set_option maxRecDepth 100000 in
theorem ordPar_read {H : Type} {enc : TypeId × Value → H} {W : World} {base : Nat} {v : Value} {d : DataW H} {ps : List MemPlace} (hval : Value.okWide Tryz.prog W .any base 26 v) (h : DataW.Trod enc Tryz.prog W 0 (fun _ => true) true 26 v d ps) :
    ∃ o : Ord, Rep (baseCtx W fun b => b < W.heap.size) (.agg (ordD o)) v ∧ o.ok := by
  obtain ⟨cs, rfl, hn⟩ := okWide_struct Tryz.underlying26 hval
  obtain ⟨fuel, hf⟩ := h
  have hn2 : cs.size = 8 := hn.trans (by kernel_rfl)
  simp only [Value.cells] at hf
  obtain ⟨o, ho, hc⟩ := ord_read hf
  refine ⟨o, .agg (by simpa [ordD] using hn2) fun j d u hd hu => ?_, ho⟩
  have hd2 : ((ordVals o).map D.v)[j]? = some d := hd
  rw [List.getElem?_map] at hd2
  cases hq : (ordVals o)[j]? with
  | none => rw [hq] at hd2; cases hd2
  | some c =>
    rw [hq] at hd2
    simp only [Option.map_some, Option.some.injEq] at hd2
    subst hd2
    have := hc j c hq
    rw [Array.getElem?_toList, hu] at this
    injection this with this
    subst this
    exact .v
end Go.Proofs.YtooaeccmkgockaaGreatDoor.V
