/-
  make([]T, n): a row of one's own of so many zeros. Conditions: at least one, not too many bytes.
-/
import Derived.Test.YtcbpdjikdohegaaGreatK1
import Derived.Laws.MakeOwn
namespace Go.Proofs.YtcbpdjikdohegaaGreat.V
open Go.RowKit
section
variable {P : Program} {tt : TT} {s : St}

theorem op_makeSlice (htt : ttOk P tt) {g : Bool} {o : Oper} {t el : TypeId} {a1 a2 a3 ti} {x y : Operand} {kk kk' : IntKind} {n : Int} {β : Type} {enc : β → List D} {zz : β} (ho : o.op = .makeSlice t x y) (hx : evD s x = .v (.int kk n)) (hy : evD s y = .v (.int kk' n))
    (ht : tfind tt t = some ⟨.slice el, a1, a2, a3⟩) (he : tfind tt el = some ti) (hs0 : 0 < ti.size) (hzl : ti.zero.length = ti.size) (hnn : 0 < n ∧ n ≤ 1099511627776 ∧ n * ti.bytes ≤ 140737488355328) (hzz : enc zz = ti.zero.map .v) {K : D → St → Prop}
    (h : K (.grow s.nx) ⟨s.F, (s.nx, .grow β el ti.size enc (List.replicate n.toNat zz)) :: s.H, s.nx + 1, s.G⟩) : OpVC P g o s K := by
  intro E σ τ a w hs next Q hn
  obtain ⟨de, i, z, k1, _, _, k4, _⟩ := view_spec (tfind_view htt ht)
  have := ud_slice k4; subst this
  obtain ⟨_, q, zv, q1, q2, q3, _, q5, q6, q7⟩ := view_spec (tfind_view htt he)
  obtain ⟨hn0, hn1, hn2⟩ := hnn
  have hxr := evD_rep hs x
  rw [hx] at hxr
  have hxv := rep_v hxr
  have hyr := evD_rep hs y
  rw [hy] at hyr
  have hyv := rep_v hyr
  have hzc : zv.cells.size = ti.size := by rw [← hzl, ← q7]; simp
  obtain ⟨m, rfl⟩ : ∃ m : Nat, n = (m : Int) := ⟨n.toNat, by omega⟩
  have hb3 : (q.bytes : Int) * (m : Int) ≤ 2 ^ 48 := by rw [q6, Int.mul_comm]; have : (m : Int) * ti.bytes ≤ 140737488355328 := hn2; omega
  have hrun := run_make (P := P) w t el q zv k1 q2 q3 kk kk' m m (by omega) (Int.le_refl _) hb3 (by omega)
  rw [Int.toNat_natCast, q5] at hrun
  have hml : (maxLen : Nat) = 9223372036854775807 := by decide
  have hsz : (madeCells zv.cells (m * ti.size)).size = m * ti.size := by simp [madeCells]
  have hown : (w.alloc (.cells (madeCells zv.cells (m * ti.size)) el)).ownsRow 0 el ti.size (.slice (some ⟨w.heap.size, 0, none⟩) m m) m (madeCells zv.cells (m * ti.size)).toList := by
    refine ⟨by simp [hsz], .inr ⟨w.heap.size, _, _, rfl, Nat.zero_le _, heap_alloc_new w _, Nat.le_refl _, by rw [hml]; omega, hsz, ?_⟩⟩
    exact List.take_of_length_le (by rw [Array.length_toList, hsz]; exact Nat.le_refl _)
  obtain ⟨F, H, nx, G⟩ := s
  obtain ⟨τ', r6, r7⟩ := grow_state (dst := .v (.slice none 0 0)) (u := .slice none 0 0) (el := el) (e := ti.size) (old := []) (w' := w.alloc (.cells (madeCells zv.cells (m * ti.size)) el)) hs (by simp [ownRows]) .v (Nat.le_refl _) (World.grownBy_alloc w _ _) (.inr (.inr rfl)) ⟨_, _, _, rfl⟩ (β := β) (enc := enc) (L := List.replicate m zz) (xs := (madeCells zv.cells (m * ti.size)).toList)
    (by rw [List.length_replicate]; exact hown) (fun i x hx => by
      have := List.eq_of_mem_replicate (List.mem_of_getElem? hx)
      subst this
      rw [hzz, List.length_map, hzl]) (fun i x j d v hx hd hv => by
      have := List.eq_of_mem_replicate (List.mem_of_getElem? hx)
      subst this
      have hj : j < ti.size := by have := (List.getElem?_eq_some_iff.1 hd).1; rw [hzz, List.length_map, hzl] at this; exact this
      have hi : i < m := by have := (List.getElem?_eq_some_iff.1 hx).1; simpa using this
      have hb : i * ti.size + ti.size ≤ m * ti.size := by
        have := Nat.mul_le_mul_right ti.size (show i + 1 ≤ m from hi)
        rw [Nat.succ_mul] at this; exact this
      rw [hzz, List.getElem?_map] at hd
      have hm : (i * ti.size + j) % zv.cells.size = j := by rw [hzc, Nat.add_comm, Nat.add_mul_mod_self_right]; exact Nat.mod_eq_of_lt hj
      have hv2 : zv.cells.toList[j]? = some v := by
        have h1 : (madeCells zv.cells (m * ti.size)).toList[i * ti.size + j]? = zv.cells[(i * ti.size + j) % zv.cells.size]? := by
          have h2 : (i * ti.size + j) % zv.cells.size < zv.cells.size := by rw [hm, hzc]; exact hj
          simp only [madeCells, Array.toList_map, List.getElem?_map, Array.getElem?_toList, Array.getElem?_range]
          rw [if_pos (by omega)]
          simp only [Option.map_some]
          rw [getElem!_pos zv.cells _ h2, Array.getElem?_eq_getElem h2]
        rw [h1, hm] at hv
        rw [Array.getElem?_toList]
        exact hv
      rw [← q7, hv2] at hd
      simp only [Option.map_some, Option.some.injEq] at hd
      subst hd
      exact .v)
  have hexec : (execOp a.eval o).run P w = .ok (.value (.slice (some ⟨w.heap.size, 0, none⟩) m m)) (w.alloc (.cells (madeCells zv.cells (m * ti.size)) el)) := by
    simp [execOp, ho, hxv, hyv, hrun]
  unfold Oper.wp
  rw [hexec]
  exact hn _ _ _ _ _ _ h r6 (.grow ⟨Nat.lt_succ_self _, r7.symm⟩) (fun _ => (Below.refl _ _).alloc (Nat.le_refl _) _)
end
end Go.Proofs.YtcbpdjikdohegaaGreat.V
