/-
  The law SpanWays of layer 50: the given statement, proved. No condition.
-/
import Derived.Test.YtclkaacdbhbigaaCeL
import Derived.Test.YtclkaacdbhbigaaSpan
namespace Go.Proofs.Ytclkaacdbhbigaa
open Go.ChangeShapes Go.WideShapes Go.ChangeAt Go.RowKit

theorem lives_any (w : World) : Calls Try.prog 9 #[] w fun e w' => e = .returned (.bool true) ∧ Below w.heap.size w w' :=
  lives_of (steps := 100000) (d := 60) (by kernel_rfl) w

theorem ways_any (a b n : Int) (w : World) (_a0 : 0 ≤ a) (_a1 : a ≤ 4294967295) (_b0 : 0 ≤ b) (_b1 : b ≤ 4294967295) (_n0 : 0 ≤ n) (_n1 : n ≤ 4294967295) :
    Calls Try.prog 3 #[.int .u32 a, .int .u32 b, .int .u32 n] w fun e w' => e = .returned (.bool true) ∧ Below w.heap.size w w' := by
  go_enter Try.func3, Try.ntmps3
  go_wp2_with (first | (go_at_call 7; refine (ahead_any a b _ _a0 _a1 _b0 _b1).mono ?_; rintro e w' ⟨rfl, rfl⟩) | (go_at_call 8; refine (within_any b a n _ _b0 _b1 _a0 _a1).mono ?_; rintro e w' ⟨rfl, rfl⟩) | (go_at_call 9; refine (lives_any _).mono ?_; rintro e w' ⟨rfl, hb⟩))
  all_goals go_ret
  all_goals first
    | exact ⟨rfl, by assumption⟩
    | (exfalso; simp only [aheadB] at *; grind)
    | (exfalso; simp only [aheadB, Bool.and_eq_decide, decide_eq_decide] at *; omega)

theorem ways_walk {H : Type} (enc : TypeId × Value → H) (W : World) (base : Nat) (args : Array Value) (ds : List (DataW H)) (p : List MemPlace)
    (hval : ∀ (j : Nat) t v, Try.f3.params[j]? = some t → args[j]? = some v → Value.okWide Try.prog W .any base t v)
    (hA : DataW.TrodAll enc Try.prog W 0 (fun _ => true) true Try.f3.params.toList args.toList ds p) :
    Calls Try.prog 3 args W fun e W' => e = .returned (.bool true) ∧ Below W.heap.size W W' := by
  rw [Try.params3] at hA hval
  obtain ⟨v0, v1, v2, d0, d1, d2, p0, p1, p2, rfl, rfl, rfl, h0, h1, h2⟩ := trodAll_three hA
  obtain ⟨a, rfl, rfl, rfl, wa⟩ := open_int Try.underlying22 (hval 0 22 v0 rfl rfl) h0
  obtain ⟨b, rfl, rfl, rfl, wb⟩ := open_int Try.underlying22 (hval 1 22 v1 rfl rfl) h1
  obtain ⟨n, rfl, rfl, rfl, wn⟩ := open_int Try.underlying22 (hval 2 22 v2 rfl rfl) h2
  have ha := bounds_u32 wa
  have hb := bounds_u32 wb
  have hn := bounds_u32 wn
  exact ways_any a b n W ha.1 (by omega) hb.1 (by omega) hn.1 (by omega)

set_option maxRecDepth 100000 in
theorem spanWays_lifted (os : Os) (started : os.Started) (H : Type) (enc : TypeId × Value → H) :
    ReturnsInHanded {} Try.checked os 3 .any (Rows.spanWaysSpec.pre6 enc Try.prog Try.f3 [] false) (Rows.spanWaysSpec.post enc Try.prog Try.f3 false true false false) :=
  law_lifted Try.func3 (by kernel_rfl) rfl rfl Try.underlying4 (by kernel_rfl) os started H enc
    (fun ds hds => by match ds, hds with | [_, _, _], _ => exact ⟨rfl, rfl, rfl⟩)
    (ChangeSpec.witness6 (enc := enc) (C := Try.checked) false ⟨#[], zeroArgs Try.prog Try.f3, []⟩ 8 (by kernel_rfl) (by kernel_rfl) (by kernel_rfl) (by kernel_rfl))
    (ways_walk enc)

theorem spanWays_holds : Rows.SpanWaysSaid :=
  OpenClaim.holds_of_wide 3 Try.f3 rfl rfl rfl rfl rfl rfl rfl ⟨rfl, rfl, rfl, rfl, rfl⟩ rfl rfl rfl rfl rfl (by kernel_rfl) Try.func3 (by kernel_rfl)
    (of_decide_eq_true (by kernel_rfl)) (by unfold Func.isWrapper; first | (rw [if_pos (by decide +kernel)]; kernel_rfl) | (rw [if_neg (by decide +kernel)]; exact ⟨rfl, rfl⟩))
    (fun os started H enc _ => spanWays_lifted os started H enc)
#print axioms spanWays_holds
end Go.Proofs.Ytclkaacdbhbigaa
