/-
  The wheel goes on by one tick: words. No condition.
-/
import Derived.Test.YtcbpdjikdohegaaWsK
namespace Go.Proofs.Ytcbpdjikdohegaa.V
open Go.RowKit
theorem mdels_snoc (D : List Al) (a : Al) (M : List ME) : mdels (D ++ [a]) M = mdel a.id (mdels D M) := by
  unfold mdels; rw [List.foldl_append]; rfl
end Go.Proofs.Ytcbpdjikdohegaa.V
