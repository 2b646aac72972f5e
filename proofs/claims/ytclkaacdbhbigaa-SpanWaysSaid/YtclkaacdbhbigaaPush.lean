/-
  'out = append(out, x)' where out is of the call's own memory and x is a struct or a number that was just built: one step of a walk. No condition.
-/
import Derived.Test.YtclkaacdbhbigaaPlan
import Derived.Laws.AppendOwn
import Derived.OwnWalk
namespace Go.Proofs.Ytclkaacdbhbigaa
open Go.RowKit

section
variable {P : Program} {w : World}

theorem own_block {base : Nat} {e : TypeId} {size : Nat} {v : Value} {n : Nat} {xs : List Value} (h : w.ownsRow base e size v n xs) : ∀ k, v.ownBlock = some k → base ≤ k := fun k hk => (h.lt k hk).1

theorem wpList_push {ops : Array Oper} {rest : List Oper} {o : Oper} {a : Act} {Q : Exit → Act → World → Prop} (hgd : o.guard = none) (s x : Operand) (t : TypeId)
    (ho : o.op = .call { callee := .builtin .append, args := #[s, x], argTypes := #[t, t] })
    (base : Nat) (e : TypeId) (z : Value) (size bytes : Nat) (ht : P.underlying t = some (.slice e)) (hi : (P.info? e).map (fun i => (i.zero, i.size, i.bytes)) = some (some z, size, bytes))
    (hzs : z.cells.size = size) (hsz : 0 < size) (v : Value) (n : Nat) (xs : List Value) (hs : a.eval s = v) (hown : w.ownsRow base e size v n xs)
    (news : Array Value) (hx : a.eval x = .slice (some ⟨w.heap.size, 0, none⟩) 1 1) (hl : news.size = size) (h1 : ∀ u ∈ news.toList, u.oneCell' = true) (hn : n ≤ 1000000) (hbytes : bytes ≤ 1000000) (hbase : base ≤ w.heap.size)
    (h : ∀ v' w', w'.ownsRow base e size v' (n + 1) (xs ++ news.toList) → (w.alloc (.cells news e)).grownBy w' v.ownBlock → Below base w w' → wpList P ops Q rest (a.put o.dst v') w') :
    wpList P ops Q (o :: rest) a (w.alloc (.cells news e)) := by
  cases hq : P.info? e with
  | none => simp [hq] at hi
  | some i =>
    simp only [hq, Option.map_some, Option.some.injEq, Prod.mk.injEq] at hi
    obtain ⟨hz, hsize, hby⟩ := hi
    refine wpList_append_own _ hgd s x t ho base e i z size bytes ht hq hz hsize hby hzs hsz v n xs hs (hown.alloc _) ⟨w.heap.size, 0, none⟩ 1 1 news.toList hx (by simp [hl]) ?_ h1 (by unfold maxLen; omega) ?_ (by simp; omega) ?_
    · intro j u hj
      have : (⟨w.heap.size, 0, none⟩ : Addr).add j = ⟨w.heap.size, j, none⟩ := by unfold Addr.add; split <;> simp_all
      rw [this, World.cell?_alloc_mark]
      simpa using hj
    · exact Nat.le_trans (Nat.mul_le_mul (by omega : n + 1 ≤ 1000001) hbytes) (by decide)
    · intro v' w' ho' hg _
      exact h v' w' ho' hg (((Below.refl base w).alloc hbase _).grown hg (by simp; omega) (fun k hk => own_block hown k hk))
end
end Go.Proofs.Ytclkaacdbhbigaa
