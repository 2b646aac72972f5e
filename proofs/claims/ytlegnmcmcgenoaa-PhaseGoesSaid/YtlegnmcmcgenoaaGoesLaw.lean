/-
  The law PhaseGoes of layer 21: the given statement, proved. No condition.
-/
import Derived.Test.YtlegnmcmcgenoaaLaw
import Derived.Test.YtlegnmcmcgenoaaFlat
import Derived.Test.YtlegnmcmcgenoaaGoes
import Derived.Test.YtlegnmcmcgenoaaPlain
namespace Go.Proofs.Ytlegnmcmcgenoaa
open Go.ChangeShapes Go.WideShapes Go.ChangeAt Go.RowKit

theorem goes_walk {H : Type} (enc : TypeId × Value → H) (W : World) (base : Nat) (args : Array Value) (ds : List (DataW H)) (p : List MemPlace)
    (hval : ∀ (j : Nat) t v, Try.f4.params[j]? = some t → args[j]? = some v → Value.okWide Try.prog W .any base t v)
    (hA : DataW.TrodAll enc Try.prog W 0 (fun _ => true) true Try.f4.params.toList args.toList ds p) :
    Calls Try.prog 4 args W fun e W' => e = .returned (.bool true) ∧ Below W.heap.size W W' := by
  rw [Try.params4] at hA hval
  obtain ⟨v0, v1, v2, d0, d1, d2, p0, p1, p2, rfl, rfl, rfl, h0, h1, h2⟩ := trodAll_three hA
  obtain ⟨cs, rfl, hn⟩ := okWide_struct Try.underlying38 (hval 0 38 v0 rfl rfl)
  obtain ⟨q, rfl, rfl, rfl, wq⟩ := open_int Try.underlying3 (hval 1 3 v1 rfl rfl) h1
  obtain ⟨f, rfl, rfl, rfl, wf⟩ := open_int Try.underlying5 (hval 2 5 v2 rfl rfl) h2
  obtain ⟨fuel, hf⟩ := h0
  have hn40 : cs.size = 40 := hn.trans (by kernel_rfl)
  obtain ⟨x1, e1, _⟩ := trod_cell_int (d := 5) (off := 32) (k := .i64) hf (by kernel_rfl) Try.underlying3
  obtain ⟨x2, e2, _⟩ := trod_cell_int (d := 5) (off := 33) (k := .i64) hf (by kernel_rfl) Try.underlying3
  obtain ⟨x3, e3, _⟩ := trod_cell_int (d := 5) (off := 34) (k := .i64) hf (by kernel_rfl) Try.underlying3
  obtain ⟨x4, e4, _⟩ := trod_cell_int (d := 5) (off := 35) (k := .i64) hf (by kernel_rfl) Try.underlying3
  have hf0 := bounds_u8 wf
  simp only [Value.cells, Array.getElem?_toList] at e1 e2 e3 e4
  exact goes_any cs q f x1 x2 x3 x4 W hn40 e1 e2 e3 e4 hf0.1 hf0.2 (first_same f hf0.1 hf0.2) (next_same q f hf0.1 hf0.2)

set_option maxRecDepth 100000 in
theorem goes_lifted (os : Os) (started : os.Started) (H : Type) (enc : TypeId × Value → H) :
    ReturnsInHanded {} Try.checked os 4 .any (Rows.phaseGoesSpec.pre6 enc Try.prog Try.f4 [] false) (Rows.phaseGoesSpec.post enc Try.prog Try.f4 false true false false) :=
  law_lifted Try.func4 (by kernel_rfl) rfl rfl Try.underlying4 (by kernel_rfl) os started H enc
    (fun ds hds => by match ds, hds with | [_, _, _], _ => exact ⟨rfl, rfl, rfl⟩)
    (ChangeSpec.witness6 (enc := enc) (C := Try.checked) false ⟨#[], #[.agg #[.int .u8 0, .int .u8 0, .int .u8 0, .int .u8 0, .int .u8 0, .int .u8 0, .int .u8 0, .int .u8 0, .int .u8 0, .int .u8 0, .int .u8 0, .int .u8 0, .int .u32 0, .int .u32 0, .int .i64 0, .int .i64 0, .int .u32 0, .int .i64 0, .int .u64 0, .int .u64 0, .int .u64 0, .int .u64 0, .int .u16 0, .int .i64 0, .int .i64 0, .int .i64 0, .int .i64 0, .int .i64 0, .int .i64 0, .int .i64 0, .int .i64 0, .int .i64 0, .int .i64 0, .int .i64 0, .int .i64 0, .int .i64 0, .int .i64 0, .int .i64 0, .int .i64 0, .int .i64 0], .int .i64 0, .int .u8 0], []⟩ 8 (by kernel_rfl) (by kernel_rfl) (by kernel_rfl) (by kernel_rfl))
    (goes_walk enc)

theorem goes_holds : Rows.PhaseGoesSaid :=
  OpenClaim.holds_of_wide 4 Try.f4 rfl rfl rfl rfl rfl rfl rfl ⟨rfl, rfl, rfl, rfl, rfl⟩ rfl rfl rfl rfl rfl (by kernel_rfl) Try.func4 (by kernel_rfl)
    (of_decide_eq_true (by kernel_rfl)) (by unfold Func.isWrapper; first | (rw [if_pos (by decide +kernel)]; kernel_rfl) | (rw [if_neg (by decide +kernel)]; exact ⟨rfl, rfl⟩))
    (fun os started H enc _ => goes_lifted os started H enc)
#print axioms goes_holds
end Go.Proofs.Ytlegnmcmcgenoaa
