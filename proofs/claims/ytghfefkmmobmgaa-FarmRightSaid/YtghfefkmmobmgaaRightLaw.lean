/-
  The law FarmRight of layer 31: the given statement, proved. No condition.
-/
import Derived.Test.YtghfefkmmobmgaaCeL
import Derived.Test.YtghfefkmmobmgaaRead
import Derived.Test.YtghfefkmmobmgaaRRight
namespace Go.Proofs.Ytghfefkmmobmgaa
open Go.ChangeShapes Go.WideShapes Go.ChangeAt Go.RowKit

theorem farm_lives (w : World) : Calls Try.prog 20 #[] w fun e w' => e = .returned (.bool true) ∧ Below w.heap.size w w' :=
  lives_of (steps := 100000) (d := 60) (by kernel_rfl) w

theorem cell_kept {w w' : World} {a : Addr} {v : Value} (hb : Below w.heap.size w w') (h : w.cell? a = some v) : w'.cell? a = some v := (hb.cell (World.block_lt_of_cell? w _ h)).trans h

set_option maxHeartbeats 1000000 in
theorem farmRight_any (pv pb : Option Addr) (cv cb : Nat) (V : List VipD) (B : List BackD) (w : World) (hcv : V.length ≤ cv) (hcb : B.length ≤ cb) (hV : RowsAt w vipV 5 pv V) (hB : RowsAt w backV 6 pb B) (wV : ∀ v ∈ V, vipW v) (wB : ∀ b ∈ B, backW b) :
    Calls Try.prog 5 #[.agg #[.slice pv V.length cv, .slice pb B.length cb]] w fun e w' => e = .returned (.bool true) ∧ Below w.heap.size w w' := by
  obtain ⟨b0, hb0⟩ : ∃ b0 : Bool, b0 = true ↔ farmMay V B := ⟨@decide (farmMay V B) (Classical.propDecidable _), by simp⟩
  by_cases hlen : V.length ≤ 10 ∧ B.length ≤ 20
  · have hR := fun (w' : World) (hb : Below w.heap.size w w') => (right_any pv pb cv cb V B w' (by omega) (by omega) hcv hcb (hV.below hb) (hB.below hb) wV wB).mono
      (show ∀ e w'', AnsB w' (farmMay V B) e w'' → e = .returned (.bool b0) ∧ Below w'.heap.size w' w'' from fun e w'' ⟨r, h1, h2, h3⟩ => ⟨by rw [h1]; congr 2; rw [Bool.eq_iff_iff, h2, hb0], h3⟩)
    have hRR := fun (w' : World) (hb : Below w.heap.size w w') => (rright_any pv pb cv cb V B w' (by omega) (by omega) hcv hcb (hV.below hb) (hB.below hb) wV wB).mono
      (show ∀ e w'', AnsB w' (farmMay V B) e w'' → e = .returned (.bool b0) ∧ Below w'.heap.size w' w'' from fun e w'' ⟨r, h1, h2, h3⟩ => ⟨by rw [h1]; congr 2; rw [Bool.eq_iff_iff, h2, hb0], h3⟩)
    obtain ⟨hl1, hl2⟩ := hlen
    have HR := Lib.hid hR
    have HRR := Lib.hid hRR
    clear hR hRR hV hB wV wB hb0
    go_enter Try.func5, Try.ntmps5
    go_wp2_with fail
    have f0 : (w.alloc (.cells #[.slice pv V.length cv, .slice pb B.length cb] 29)).cell? ⟨w.heap.size, 0, none⟩ = some (.slice pv V.length cv) := by simp
    have f1 : (w.alloc (.cells #[.slice pv V.length cv, .slice pb B.length cb] 29)).cell? ⟨w.heap.size, 1, none⟩ = some (.slice pb B.length cb) := by simp
    have hbz := below_alloc_first w (.cells #[.slice pv V.length cv, .slice pb B.length cb] 29)
    go_region_held3 (fun w' => w'.cell? ⟨w.heap.size, 0, none⟩ = some (.slice pv V.length cv) ∧ w'.cell? ⟨w.heap.size, 1, none⟩ = some (.slice pb B.length cb) ∧ Below w.heap.size w w') ((go_split_ands; refine ⟨?_, ?_, ?_⟩; (first | assumption | exact cell_kept (by assumption) (by assumption)); (first | assumption | exact cell_kept (by assumption) (by assumption)); (first | assumption | exact Below.drew (by assumption) | exact below_step (by assumption) (by assumption))))
      (first
         | (go_at_call 21; refine (HR.out _ (by go_split_ands; assumption)).mono ?_; rintro e w' ⟨rfl, hb⟩)
         | (go_at_call 22; refine (HRR.out _ (by go_split_ands; assumption)).mono ?_; rintro e w' ⟨rfl, hb⟩)
         | (go_at_call 20; refine (farm_lives _).mono ?_; rintro e w' ⟨rfl, hb⟩))
    go_wp2
    go_ret
    exact ⟨rfl, by go_split_ands; assumption⟩
  · clear hV hB wV wB hb0
    go_enter Try.func5, Try.ntmps5
    go_wp2_with (first
      | (go_at_call 20; refine (farm_lives _).mono ?_; rintro _ w9 ⟨rfl, hb9⟩))
    all_goals first
      | (go_ret; exact ⟨rfl, below_step (below_alloc_first _ _) hb9⟩)
      | (exfalso; apply hlen; constructor <;> omega)

set_option maxRecDepth 100000 in
theorem farmRight_walk {H : Type} (enc : TypeId × Value → H) (W : World) (base : Nat) (args : Array Value) (ds : List (DataW H)) (p : List MemPlace)
    (hval : ∀ (j : Nat) t v, Try.f5.params[j]? = some t → args[j]? = some v → Value.okWide Try.prog W .any base t v)
    (hA : DataW.TrodAll enc Try.prog W 0 (fun _ => true) true Try.f5.params.toList args.toList ds p) :
    Calls Try.prog 5 args W fun e W' => e = .returned (.bool true) ∧ Below W.heap.size W W' := by
  rw [Try.params5] at hA hval
  obtain ⟨v0, d0, rfl, rfl, h0⟩ := trodAll_one hA
  obtain ⟨cs, rfl, hn⟩ := okWide_struct Try.underlying29 (hval 0 29 v0 rfl rfl)
  obtain ⟨fuel, hf⟩ := h0
  have hn2 : cs.size = 2 := hn.trans (by kernel_rfl)
  simp only [Value.cells] at hf
  obtain ⟨s0, f0, y0, g0, k0⟩ := trod_cell 2 _ 26 0 _ _ _ hf (by kernel_rfl)
  obtain ⟨s1, f1, y1, g1, k1⟩ := trod_cell 2 _ 27 1 _ _ _ hf (by kernel_rfl)
  obtain ⟨pv, cv, V, rfl, hcv, hV, wV⟩ := rows_of (k := 5) (encV := vipV) (ok := vipW) Try.underlying26 (by kernel_rfl) (by decide) (fun _ => rfl) (fun _ _ _ h => vip_elem h) k0
  obtain ⟨pb, cb, B, rfl, hcb, hB, wB⟩ := rows_of (k := 6) (encV := backV) (ok := backW) Try.underlying27 (by kernel_rfl) (by decide) (fun _ => rfl) (fun _ _ _ h => back_elem h) k1
  have hcs : cs = #[.slice pv V.length cv, .slice pb B.length cb] := by
    apply Array.ext'
    match hl : cs.toList, (show cs.toList.length = 2 by simpa using hn2) with
    | [a, b], _ => rw [hl] at g0 g1; simp at g0 g1; subst g0 g1; rfl
  subst hcs
  exact farmRight_any pv pb cv cb V B W hcv hcb hV hB wV wB

set_option maxRecDepth 100000 in
theorem farmRight_lifted (os : Os) (started : os.Started) (H : Type) (enc : TypeId × Value → H) :
    ReturnsInHanded {} Try.checked os 5 .any (Rows.farmRightSpec.pre6 enc Try.prog Try.f5 [] false) (Rows.farmRightSpec.post enc Try.prog Try.f5 false true false false) :=
  law_lifted Try.func5 (by kernel_rfl) rfl rfl Try.underlying4 (by kernel_rfl) os started H enc
    (fun ds hds => by match ds, hds with | [_], _ => exact ⟨rfl, rfl, rfl⟩)
    (ChangeSpec.witness6 (enc := enc) (C := Try.checked) false ⟨#[], zeroArgs Try.prog Try.f5, []⟩ 8 (by kernel_rfl) (by kernel_rfl) (by kernel_rfl) (by kernel_rfl))
    (farmRight_walk enc)

theorem farmRight_holds : Rows.FarmRightSaid :=
  OpenClaim.holds_of_wide 5 Try.f5 rfl rfl rfl rfl rfl rfl rfl ⟨rfl, rfl, rfl, rfl, rfl⟩ rfl rfl rfl rfl rfl (by kernel_rfl) Try.func5 (by kernel_rfl)
    (of_decide_eq_true (by kernel_rfl)) (by unfold Func.isWrapper; first | (rw [if_pos (by decide +kernel)]; kernel_rfl) | (rw [if_neg (by decide +kernel)]; exact ⟨rfl, rfl⟩))
    (fun os started H enc _ => farmRight_lifted os started H enc)
#print axioms farmRight_holds
end Go.Proofs.Ytghfefkmmobmgaa
