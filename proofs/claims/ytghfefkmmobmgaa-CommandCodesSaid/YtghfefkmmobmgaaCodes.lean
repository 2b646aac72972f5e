/-
  The law CommandCodes of layer 35: the given statement, proved. No condition.
-/
import Derived.Test.YtghfefkmmobmgaaCeL
import Derived.Test.YtghfefkmmobmgaaRow
import Derived.LoopTactic
import Derived.Handy
namespace Go.Proofs.Ytghfefkmmobmgaa
open Go.ChangeShapes Go.WideShapes Go.ChangeAt Go.RowKit

theorem command_lives (w : World) : Calls Try.prog 34 #[] w fun e w' => e = .returned (.bool true) ∧ Below w.heap.size w w' :=
  lives_of (steps := 100000) (d := 60) (by kernel_rfl) w

theorem code_any (x : Int) (w : World) : Calls Try.prog 35 #[.int .i64 x] w fun e w' => e = .returned (.int .u8 (if 0 ≤ x ∧ x ≤ 254 then x else 255)) ∧ w = w' := by
  go_enter Try.func35, Try.ntmps35
  go_wp2
  all_goals
    go_ret
    refine ⟨ret_int ?_, rfl⟩
    first
      | (split <;> first | rfl | omega)
      | grind

theorem codes_any (x : Int) (w : World) : Calls Try.prog 8 #[.int .i64 x] w fun e w' => e = .returned (.bool true) ∧ Below w.heap.size w w' := by
  go_enter Try.func8, Try.ntmps8
  go_wp2_with (first | (go_at_call 35; refine (code_any x _).mono ?_; rintro e w' ⟨rfl, rfl⟩) | (go_at_call 34; refine (command_lives _).mono ?_; rintro e w' ⟨rfl, hb⟩))
  all_goals go_ret
  all_goals first
    | exact ⟨rfl, by assumption⟩
    | (exfalso; grind)

set_option maxRecDepth 100000 in
theorem codes_walk {H : Type} (enc : TypeId × Value → H) (W : World) (base : Nat) (args : Array Value) (ds : List (DataW H)) (p : List MemPlace)
    (hval : ∀ (j : Nat) t v, Try.f8.params[j]? = some t → args[j]? = some v → Value.okWide Try.prog W .any base t v)
    (hA : DataW.TrodAll enc Try.prog W 0 (fun _ => true) true Try.f8.params.toList args.toList ds p) :
    Calls Try.prog 8 args W fun e W' => e = .returned (.bool true) ∧ Below W.heap.size W W' := by
  rw [Try.params8] at hA hval
  obtain ⟨v0, d0, rfl, rfl, h0⟩ := trodAll_one hA
  obtain ⟨x, rfl, rfl, rfl, wx⟩ := open_int Try.underlying61 (hval 0 61 v0 rfl rfl) h0
  exact codes_any x W

set_option maxRecDepth 100000 in
theorem commandCodes_lifted (os : Os) (started : os.Started) (H : Type) (enc : TypeId × Value → H) :
    ReturnsInHanded {} Try.checked os 8 .any (Rows.commandCodesSpec.pre6 enc Try.prog Try.f8 [] false) (Rows.commandCodesSpec.post enc Try.prog Try.f8 false true false false) :=
  law_lifted Try.func8 (by kernel_rfl) rfl rfl Try.underlying4 (by kernel_rfl) os started H enc
    (fun ds hds => by match ds, hds with | [_], _ => exact ⟨rfl, rfl, rfl⟩)
    (ChangeSpec.witness6 (enc := enc) (C := Try.checked) false ⟨#[], zeroArgs Try.prog Try.f8, []⟩ 8 (by kernel_rfl) (by kernel_rfl) (by kernel_rfl) (by kernel_rfl))
    (codes_walk enc)

theorem commandCodes_holds : Rows.CommandCodesSaid :=
  OpenClaim.holds_of_wide 8 Try.f8 rfl rfl rfl rfl rfl rfl rfl ⟨rfl, rfl, rfl, rfl, rfl⟩ rfl rfl rfl rfl rfl (by kernel_rfl) Try.func8 (by kernel_rfl)
    (of_decide_eq_true (by kernel_rfl)) (by unfold Func.isWrapper; first | (rw [if_pos (by decide +kernel)]; kernel_rfl) | (rw [if_neg (by decide +kernel)]; exact ⟨rfl, rfl⟩))
    (fun os started H enc _ => commandCodes_lifted os started H enc)
#print axioms commandCodes_holds
end Go.Proofs.Ytghfefkmmobmgaa
