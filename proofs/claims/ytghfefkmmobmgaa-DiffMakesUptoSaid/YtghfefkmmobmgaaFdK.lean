/-
  The orders that make a farm into another one: the document's. Conditions: short rows.
-/
import Derived.Test.YtghfefkmmobmgaaFrK
import Derived.Test.YtghfefkmmobmgaaK1
namespace Go.Proofs.Ytghfefkmmobmgaa.V
open Go.RowKit
attribute [local irreducible] Fn CallVC OpVC

/-- Does a backend go? -/
def leavesB (x : Back) (B : List Back) : Bool := match getAt (fun b : Back => decide (b.id = x.id)) B with
  | none => true
  | some y => !decide (y.vip = x.vip) || (!decide (y.addr = x.addr) || (decide (x.life = 2) && decide (y.life = 1)))

theorem leaves_fn (x : Back) (V : List Vip) (B : List Back) (hB : B.length ≤ 100) : Fn Try.prog 44 [.agg (backD x), farmD V B] fun d => d = boolD (leavesB x B) := by
  refine fnOf [] Try.func44 rfl (by kernel_rfl) (Nat.le_of_ble_eq_true rfl) ?_
  conv => whnf
  refine CallVC.pure (backAt_fn V B x.id (by omega)) rfl ?_
  rintro _ rfl
  rcases found (fun b : Back => decide (b.id = x.id)) B with ⟨h1, h2⟩ | ⟨k, y, h1, h2, h3⟩
  · rw [h1]
    conv => whnf
    simp only [leavesB, h2]
  · rw [h1]
    conv => whnf
    have hk : k < B.length := (List.getElem?_eq_some_iff.1 h3).1
    refine ⟨rfl, ⟨by omega, by omega⟩, fun x' hx' => ?_⟩
    obtain rfl : y = x' := by simpa using h3.symm.trans hx'
    conv => whnf
    repeat' (refine Fork.intro (fun _ => ?_) (fun _ => ?_) <;> conv => whnf)
    all_goals
      congr 2
      simp_all [leavesB]
end Go.Proofs.Ytghfefkmmobmgaa.V
