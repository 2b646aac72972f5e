/-
  The constant configuration of layer 25's statements, and what 'lives' answers. No condition.
-/
import Derived.Test.YtejkambjfcpagaaRNets
import Derived.Test.YtejkambjfcpagaaRRight
import Derived.Test.YtejkambjfcpagaaEq
import Derived.Deep.WholeRow
namespace Go.Proofs.Ytejkambjfcpagaa
open Go.RowKit

def usualZs : List Int := [2, 0, 0, 0, 0, 1, 2, 0, 0, 0, 0, 2, 167772161, 167837697, 24, 24, 167772414, 1500, 1, 2, 3, 4, 7000, 13, 8, 8, 64, 8, 8, 100, 2, 3, 5, 30, 4, 10, 3, 2, 2, 2]
def usualZ (i : Nat) : Int := usualZs.getD i 0
def usualCs : Array Value := (List.zipWith Value.int confKs usualZs).toArray

theorem usual_conf : IsConf usualCs usualZ := by
  have hl : usualZs.length = 40 := rfl
  refine ⟨rfl, fun i k h => ?_, fun i k h => ?_⟩
  · have hi : i < 40 := by
      have := (List.getElem?_eq_some_iff.1 h).1
      simpa [confKs] using this
    have hz : usualZs[i]? = some (usualZ i) := by
      rw [usualZ, List.getD_eq_getElem?_getD, List.getElem?_eq_getElem (by omega)]; rfl
    rw [usualCs, List.getElem?_toArray, List.getElem?_zipWith, h, hz]
  · have hi : i < 40 := by
      have := (List.getElem?_eq_some_iff.1 h).1
      simpa [confKs] using this
    have hall : (List.range 40).all (fun i => match confKs[i]? with | some k => (Lit.int k (usualZ i)).wf | none => true) = true := by kernel_rfl
    have := List.all_eq_true.1 hall i (by simpa using hi)
    simpa [h] using this

def buildSem (ty : TypeId) (v : Array (Nat × Value)) : Sem Value := Instr.build ty v
def storeSem (ty : TypeId) (p v : Value) : Sem Unit := Instr.storeAt ty p v
theorem config_build_veil (v : Array (Nat × Value)) : Instr.build 33 v = buildSem 33 v := rfl
theorem config_store_veil (p v : Value) : Instr.storeAt 33 p v = storeSem 33 p v := rfl
attribute [local go_sem ↓] config_build_veil config_store_veil
theorem usual_build (w : World) : (buildSem 33 #[(0, .agg #[.int .u8 2, .int .u8 0, .int .u8 0, .int .u8 0, .int .u8 0, .int .u8 1, .int .u8 2, .int .u8 0, .int .u8 0, .int .u8 0, .int .u8 0, .int .u8 2]),
    (1, .agg #[.int .u32 167772161, .int .u32 167837697]), (2, .agg #[.int .i64 24, .int .i64 24]), (3, .int .u32 167772414), (4, .int .i64 1500), (5, .agg #[.int .u64 1, .int .u64 2]), (6, .agg #[.int .u64 3, .int .u64 4]),
    (7, .int .u16 7000), (8, .int .i64 13), (9, .int .i64 8), (10, .int .i64 8), (11, .int .i64 64), (12, .int .i64 8), (13, .int .i64 8), (14, .int .i64 100), (15, .int .i64 2), (16, .int .i64 3), (17, .int .i64 5), (18, .int .i64 30),
    (19, .int .i64 4), (20, .int .i64 10), (21, .int .i64 3), (22, .int .i64 2), (23, .int .i64 2), (24, .int .i64 2)]).run Try.prog w = .ok (.agg usualCs) w := by kernel_rfl
theorem usual_store (w : World) (c : Array Value) (hc : c.size = 40) :
    (storeSem 33 (.pointer (some ⟨w.heap.size, 0, none⟩)) (.agg usualCs)).run Try.prog (w.alloc (.cells c 33)) = .ok () (w.alloc (.cells usualCs 33)) :=
  run_storeAt_new w _ c usualCs (by kernel_rfl) (by rw [hc]; rfl) (by kernel_rfl)

set_option maxRecDepth 100000 in
set_option maxHeartbeats 4000000 in
theorem usual_any (w : World) : Calls Try.prog 18 #[] w fun e w' => e = .returned (.agg usualCs) ∧ Below w.heap.size w w' := by
  have hb := usual_build
  have hs := usual_store w
  go_enter Try.func18, Try.ntmps18
  go_wp2_with fail
  refine bodyPost_ret (results_cell_row rfl _ _ w.heap.size 33 usualCs _ _ rfl (heap_alloc_new w _) Try.underlying33 rfl (by kernel_rfl)) rfl ?_
  exact ⟨rfl, below_alloc_first w _⟩

theorem box_cell {w w' : World} {c : Array Value} {t : TypeId} (h : Since (w.alloc (.cells c t)) w') (i : Nat) : w'.cell? ⟨w.heap.size, i, none⟩ = c[i]? := by
  rw [h.below.cell (by simp), World.cell?_alloc_mark]

theorem usual_right : rightB usualZ = true := by kernel_rfl
theorem usual_near : ofV 167837703 usualZ = placeV 1 167837703 0 := by kernel_rfl
theorem usual_far : ofV 134744072 usualZ = placeV 0 167772414 0 := by kernel_rfl

attribute [local go_sem ↓] config_veil
set_option maxHeartbeats 4000000 in
theorem lives_any (w : World) : Calls Try.prog 7 #[] w fun e w' => e = .returned (.bool true) ∧ Below w.heap.size w w' := by
  go_enter Try.func7, Try.ntmps7
  have hs := usual_store
  go_upto_region 2 with (first
    | (go_at_call 18; refine (usual_any _).mono ?_; rintro e w1 ⟨rfl, hb1⟩))
  clear hs
  have Hld : Hid (∀ w' : World, Since (w1.alloc (.cells usualCs 33)) w' → (rowSem 33 (.pointer (some ⟨w1.heap.size, 0, none⟩))).run Try.prog w' = .ok (.agg usualCs) w') := Lib.hid (fun w' h => conf_load usualCs w1 w' rfl h)
  have hl0 := Hld.out _ (Since.refl _)
  go_upto_region 3 with (first
    | (go_at_call 9; refine (of_any _ usualZ _ _ usual_conf (by decide) (by decide)).mono ?_; rintro e w2 ⟨rfl, hb2⟩; (simp only [usual_near, placeV])))
  have hs2 : Since (w1.alloc (.cells usualCs 33)) w2 := Since.next (Since.refl _) hb2
  have hl2 := fun o => Hld.out _ (hs2.alloc o)
  go_upto_region 4 with (first
    | (go_at_call 9; refine (of_any _ usualZ _ _ usual_conf (by decide) (by decide)).mono ?_; rintro e w3 ⟨rfl, hb3⟩; (simp only [usual_far, placeV])))
  have hs3 : Since (w1.alloc (.cells usualCs 33)) w3 := (hs2.alloc _).next hb3
  have hl3 := fun o => Hld.out _ (hs3.alloc o)
  go_wp2_with (first
    | (go_at_call 5; refine (right_of _ usualZ _ usual_conf (fun w => nets_any _ _ w usual_conf)).mono ?_; rintro e w4 ⟨rfl, hb4⟩; simp only [usual_right]; have cA0 := box_cell (((Since.refl _).next hb3).alloc _ |>.next hb4) 0; have cA1 := box_cell (((Since.refl _).next hb3).alloc _ |>.next hb4) 1; have cB0 := box_cell ((Since.refl _).next hb4) 0; have cB1 := box_cell ((Since.refl _).next hb4) 1; simp at cA0 cA1 cB0 cB1))
  go_ret
  exact ⟨rfl, Since.trans (Since.trans hb1 (Since.first _ _)) ((hs3.alloc _).next hb4)⟩
end Go.Proofs.Ytejkambjfcpagaa
