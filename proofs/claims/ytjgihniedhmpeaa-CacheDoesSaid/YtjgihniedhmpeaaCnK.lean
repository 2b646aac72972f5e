/-
  The program's cache: how many places; its deeds, whatever stands. Conditions: the cache stands right, not too much is known.
-/
import Derived.Test.YtjgihniedhmpeaaK10
import Derived.WalkKit
import Derived.WalkSpells
import Derived.WalkLawsBesides
import Derived.Deep.Light
import Derived.Deep.RegionHeld3
import Derived.Deep.MidRow
import Derived.Lib.Hide
namespace Go.Proofs.Ytjgihniedhmpeaa
open Go.RowKit
set_option maxRecDepth 100000 in
theorem len_walk (g b : Nat) (es : Array MapEntry) (clk : Nat) (w : World) (hc : w.cell? ⟨g, 41, none⟩ = some (.map (some b))) (hb : w.heap[b]? = some (.map es clk)) :
    Calls Try.prog 14 #[.pointer (some ⟨g, 0, none⟩)] w fun e w' => e = .returned (.int .i64 (es.size : Nat)) ∧ w = w' := by
  have hl : ∀ ty, (Builtin.len_ #[69] ty #[.map (some b)]).run Try.prog w = .ok (.int .i64 (es.size : Nat)) w := fun ty => by simp [Builtin.len_, run_underlying Try.underlying69, goInt, getObj, Sem.run, hb]
  go_enter Try.func14, Try.ntmps14
  go_wp2
  go_ret
  exact ⟨rfl, rfl⟩
end Go.Proofs.Ytjgihniedhmpeaa
namespace Go.Proofs.Ytjgihniedhmpeaa.V
open Go.RowKit
attribute [local irreducible] Fn FnN OpVC ArC FnR

theorem len_ar (d : CDat) (h : COk d) : ArL Try.prog 14 [ptrD d.cg] (cacheM d) fun v => v = .int .i64 (d.L.length : Nat) := by
  refine ⟨⟨_, Try.func14, rfl⟩, fun w B args' hB hM hr => ?_⟩
  obtain ⟨hal, har⟩ := hr
  obtain ⟨va, rfl⟩ : ∃ va, args' = [va] := by
    match args', hal with
    | [x], _ => exact ⟨x, rfl⟩
  have ha := rep_v (har 0 _ va rfl rfl)
  subst ha
  obtain ⟨c, hc, hrp⟩ := hM _ _ (cache_hdr (d := d))
  have hmp : w.heap[d.mg]? = some (mapO d) := hM _ _ (cache_map h)
  have hcell : w.cell? ⟨d.cg, 41, none⟩ = some (.map (some d.mg)) := by
    have hl : c.toList.length = (hdrC d).length := hrp.1
    obtain ⟨u, hu⟩ : ∃ u, c.toList[41]? = some u := ⟨_, List.getElem?_eq_getElem (by rw [hl]; exact Nat.le_of_ble_eq_true rfl)⟩
    have := rep_v (hrp.2 41 (.v (.map (some d.mg))) u rfl hu)
    subst this
    have hc : w.heap[d.cg]? = some (.cells c 71 (0, 0)) := hc
    rw [Array.getElem?_toList] at hu
    simp [World.cell?, hc, hu]
  refine (calls_drawn (Go.Proofs.Ytjgihniedhmpeaa.len_walk d.cg d.mg _ d.clk w hcell hmp)).mono fun e w' hh => ?_
  obtain ⟨⟨h1, h2⟩, h3⟩ := hh
  subst h2
  refine ⟨_, ?_, h1, ⟨Below.refl _ _, h3 ⟨_, h1⟩⟩⟩
  simp
end Go.Proofs.Ytjgihniedhmpeaa.V
