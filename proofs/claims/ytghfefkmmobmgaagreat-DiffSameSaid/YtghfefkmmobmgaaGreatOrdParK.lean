/-
  An order that comes in, read by value. No condition beyond the reading.
-/
import Derived.Test.YtghfefkmmobmgaaGreatOrdReadsK
namespace Go.Proofs.YtghfefkmmobmgaaGreat.V
open Go.ChangeShapes Go.WideShapes Go.ChangeAt Go.RowKit

set_option maxRecDepth 100000 in
theorem ordPar_read {H : Type} {enc : TypeId × Value → H} {W : World} {base : Nat} {v : Value} {d : DataW H} {ps : List MemPlace} (hval : Value.okWide Tryz.prog W .any base 27 v) (h : DataW.Trod enc Tryz.prog W 0 (fun _ => true) true 27 v d ps) :
    ∃ o : Ord, Rep (baseCtx W fun b => b < W.heap.size) (.agg (ordD o)) v ∧ o.ok := by
  obtain ⟨cs, rfl, hn⟩ := okWide_struct Tryz.underlying27 hval
  obtain ⟨fuel, hf⟩ := h
  have hn2 : cs.size = 8 := hn.trans (by kernel_rfl)
  simp only [Value.cells] at hf
  obtain ⟨o, ho, hc⟩ := ord_read hf
  refine ⟨o, .agg (by simpa [ordD] using hn2) fun j d u hd hu => ?_, ho⟩
  have hd2 : ((ordVals o).map D.v)[j]? = some d := hd
  rw [List.getElem?_map] at hd2
  cases hq : (ordVals o)[j]? with
  | none => rw [hq] at hd2; cases hd2
  | some c =>
    rw [hq] at hd2
    simp only [Option.map_some, Option.some.injEq] at hd2
    subst hd2
    have := hc j c hq
    rw [Array.getElem?_toList, hu] at this
    injection this with this
    subst this
    exact .v
end Go.Proofs.YtghfefkmmobmgaaGreat.V
