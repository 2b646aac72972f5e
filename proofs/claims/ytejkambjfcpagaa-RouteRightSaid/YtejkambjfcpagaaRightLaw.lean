/-
  The law RouteRight of layer 25: the given statement, proved. No condition.
-/
import Derived.Test.YtejkambjfcpagaaLaw
import Derived.Test.YtejkambjfcpagaaFlat
import Derived.Test.YtejkambjfcpagaaLives
namespace Go.Proofs.Ytejkambjfcpagaa
open Go.ChangeShapes Go.WideShapes Go.ChangeAt Go.RowKit

attribute [local go_sem ↓] config_veil

set_option maxHeartbeats 1000000 in
theorem rightlaw_any (cs : Array Value) (z : Nat → Int) (w : World) (hz : IsConf cs z) :
    Calls Try.prog 3 #[.agg cs] w fun e w' => e = .returned (.bool true) ∧ Below w.heap.size w w' := by
  have hn := hz.size
  have hi : (Try.prog.info? 33).map (·.size) = some cs.toList.length := by rw [Array.length_toList, hn]; kernel_rfl
  have e1 := right_same z
  have Hnets := Lib.hid (fun w => nets_any cs z w hz)
  have Hright := Lib.hid (fun w => rright_any cs z w hz)
  have Hz := Lib.hid hz
  clear hz
  go_enter Try.func3, Try.ntmps3
  go_wp2_with fail
  have hr := range_all w cs 33
  have hb0 := (Below.refl w.heap.size w).alloc (Nat.le_refl _) (.cells cs 33)
  have hro : ∀ w' : World, w'.rangeAt w.heap.size 0 cs.toList → (rowSem 33 (.pointer (some ⟨w.heap.size, 0, none⟩))).run Try.prog w' = .ok (.agg cs) w' := fun w' h => rowSem_range h Try.underlying33 rfl hi
  have Hro := Lib.hid hro
  clear hro hi
  go_region_held3 (fun w' => ((rowSem 33 (.pointer (some ⟨w.heap.size, 0, none⟩))).run Try.prog w' = .ok (.agg cs) w') ∧ w'.rangeAt w.heap.size 0 cs.toList ∧ Below w.heap.size w w') ((go_split_ands; refine and_assoc.1 ⟨(fun h => ⟨Hro.out _ h, h⟩) ?_, ?_⟩; (first | assumption | exact (World.rangeAt_drew _ _ _ _).2 (by assumption) | exact range_below (by assumption) (by assumption)); (first | assumption | exact Below.drew (by assumption) | exact below_step (by assumption) (by assumption))))
    (first
       | (go_at_call 5; refine (right_of _ z _ Hz.out Hnets.out).mono ?_; rintro e w' ⟨rfl, hb⟩)
       | (go_at_call 6; refine (Hright.out _).mono ?_; rintro e w' ⟨rfl, hb⟩)
       | (go_at_call 7; refine (lives_any _).mono ?_; rintro e w' ⟨rfl, hb⟩))
  go_wp2
  go_ret
  exact ⟨rfl, by go_split_ands; assumption⟩

theorem rightlaw_walk {H : Type} (enc : TypeId × Value → H) (W : World) (base : Nat) (args : Array Value) (ds : List (DataW H)) (p : List MemPlace)
    (hval : ∀ (j : Nat) t v, Try.f3.params[j]? = some t → args[j]? = some v → Value.okWide Try.prog W .any base t v)
    (hA : DataW.TrodAll enc Try.prog W 0 (fun _ => true) true Try.f3.params.toList args.toList ds p) :
    Calls Try.prog 3 args W fun e W' => e = .returned (.bool true) ∧ Below W.heap.size W W' := by
  rw [Try.params3] at hA hval
  obtain ⟨v0, d0, rfl, rfl, h0⟩ := trodAll_one hA
  obtain ⟨cs, rfl, hn⟩ := okWide_struct Try.underlying33 (hval 0 33 v0 rfl rfl)
  obtain ⟨fuel, hf⟩ := h0
  have hn40 : cs.size = 40 := hn.trans (by kernel_rfl)
  obtain ⟨z, hz⟩ := trod_kinds (d := 5) confKs (by kernel_rfl) hf
  simp only [Value.cells, Array.getElem?_toList] at hz
  exact rightlaw_any cs z W ⟨hn40, fun i k h => (hz i k h).1, fun i k h => (hz i k h).2⟩

set_option maxRecDepth 100000 in
theorem right_lifted (os : Os) (started : os.Started) (H : Type) (enc : TypeId × Value → H) :
    ReturnsInHanded {} Try.checked os 3 .any (Rows.routeRightSpec.pre6 enc Try.prog Try.f3 [] false) (Rows.routeRightSpec.post enc Try.prog Try.f3 false true false false) :=
  law_lifted Try.func3 (by kernel_rfl) rfl rfl Try.underlying4 (by kernel_rfl) os started H enc
    (fun ds hds => by match ds, hds with | [_], _ => exact ⟨rfl, rfl, rfl⟩)
    (ChangeSpec.witness6 (enc := enc) (C := Try.checked) false ⟨#[], #[.agg #[.int .u8 0, .int .u8 0, .int .u8 0, .int .u8 0, .int .u8 0, .int .u8 0, .int .u8 0, .int .u8 0, .int .u8 0, .int .u8 0, .int .u8 0, .int .u8 0, .int .u32 0, .int .u32 0, .int .i64 0, .int .i64 0, .int .u32 0, .int .i64 0, .int .u64 0, .int .u64 0, .int .u64 0, .int .u64 0, .int .u16 0, .int .i64 0, .int .i64 0, .int .i64 0, .int .i64 0, .int .i64 0, .int .i64 0, .int .i64 0, .int .i64 0, .int .i64 0, .int .i64 0, .int .i64 0, .int .i64 0, .int .i64 0, .int .i64 0, .int .i64 0, .int .i64 0, .int .i64 0]], []⟩ 8 (by kernel_rfl) (by kernel_rfl) (by kernel_rfl) (by kernel_rfl))
    (rightlaw_walk enc)

theorem right_holds : Rows.RouteRightSaid :=
  OpenClaim.holds_of_wide 3 Try.f3 rfl rfl rfl rfl rfl rfl rfl ⟨rfl, rfl, rfl, rfl, rfl⟩ rfl rfl rfl rfl rfl (by kernel_rfl) Try.func3 (by kernel_rfl)
    (of_decide_eq_true (by kernel_rfl)) (by unfold Func.isWrapper; first | (rw [if_pos (by decide +kernel)]; kernel_rfl) | (rw [if_neg (by decide +kernel)]; exact ⟨rfl, rfl⟩))
    (fun os started H enc _ => right_lifted os started H enc)
#print axioms right_holds
end Go.Proofs.Ytejkambjfcpagaa
