/-
  Literals of slices; all operations that may turn the state. Condition: the table of types says what the program's says.
-/
import Derived.Test.YtfghccppoilfhaaVh
namespace Go.Proofs.Ytfghccppoilfhaa.V
open Go.RowKit

theorem repeatD_length (z : List D) : ∀ n, (repeatD z n).length = n * z.length
  | 0 => by simp [repeatD]
  | n + 1 => by rw [repeatD, List.length_append, repeatD_length z n, Nat.succ_mul, Nat.add_comm]
theorem repeatD_get (z : List D) : ∀ (n i : Nat), i < n * z.length → (repeatD z n)[i]? = z[i % z.length]?
  | 0, i, h => by simp at h
  | n + 1, i, h => by
    rw [repeatD]
    by_cases hi : i < z.length
    · rw [List.getElem?_append_left hi, Nat.mod_eq_of_lt hi]
    · rw [List.getElem?_append_right (by omega), repeatD_get z n _ (by rw [Nat.succ_mul] at h; omega)]
      congr 1
      conv => rhs; rw [show i = (i - z.length) + z.length by omega, Nat.add_mod_right]

theorem chunksD_spec (k : Nat) : ∀ (n : Nat) (l : List D) (L : List (List D)), chunksD k n l = some L → L.length = n ∧ ∀ (i : Nat) x, L[i]? = some x → x = (l.drop (i * k)).take k ∧ x.length = k
  | 0, l, L, h => by simp only [chunksD, Option.some.injEq] at h; subst h; exact ⟨rfl, fun i x h => by simp at h⟩
  | n + 1, l, L, h => by
    simp only [chunksD] at h
    split at h
    · rename_i c h1
      split at h
      · rename_i r h2
        injection h with h; subst h
        obtain ⟨e1, e2⟩ := takeD_spec _ _ _ h1
        obtain ⟨g1, g2⟩ := chunksD_spec k n _ r h2
        refine ⟨by simp [g1], fun i x hx => ?_⟩
        cases i with
        | zero =>
          simp only [List.getElem?_cons_zero, Option.some.injEq] at hx
          subst hx
          exact ⟨by simp [e1], by rw [e1]; simp; omega⟩
        | succ i =>
          obtain ⟨q1, q2⟩ := g2 i x (by simpa using hx)
          refine ⟨?_, q2⟩
          rw [q1, dropD_eq, List.drop_drop, Nat.succ_mul, Nat.add_comm k]
      · cases h
    · cases h

section
variable {P : Program} {tt : TT} {E : Env} {s : St} {σ : Nat → Nat} {τ : Nat → Value} {a : Act} {w : World}

theorem other_le (hs : HR E s.H s.nx σ τ w) (o : Obj) : (ctxOf E s.H s.nx σ τ w).Le (ctxOf E s.H s.nx σ τ (w.alloc o)) :=
  ⟨fun b of hb hc => (Below.heap_alloc w o b hb.2.1).trans hc, fun b hb => ⟨hb.1, by simp; have := hb.2.1; show b < _; omega, hb.2.2⟩, fun _ _ _ h => h, fun _ _ h => h, fun _ _ _ h => h⟩

theorem other_state (hs : SR E s σ τ a w) (o : Obj) : SR E s σ τ a (w.alloc o) := by
  have hle := other_le hs.heap o
  refine ⟨⟨hs.heap.kept.alloc _, hs.heap.few, fun id el l h => ?_, fun id α el e enc L h => ?_, hs.heap.apart, hs.heap.below, hs.heap.slices, fun id o' h => ⟨fun k hk => ⟨((hs.heap.obj id o' h).1 k hk).1, by have := ((hs.heap.obj id o' h).1 k hk).2; simp; omega⟩, OA.at_mono (hs.heap.obj id o' h).2 (fun k hk => Below.heap_alloc w o _ ((hs.heap.obj id o' h).1 k hk).2) (by show w.heap.size ≤ (w.alloc o).heap.size; simp) hle.still⟩⟩, hs.defers, hs.size, fun i d h => (hs.slots i d h).mono hle, hs.ghost_le rfl hle, hs.room⟩
  · obtain ⟨h1, c, h2, h3, h4⟩ := hs.heap.cells id el l h
    exact ⟨h1, c, (Below.heap_alloc w o _ (Array.getElem?_eq_some_iff.1 h2).1).trans h2, h3, fun j d u hd hu => (h4 j d u hd hu).mono hle⟩
  · obtain ⟨h1, xs, h2, h3, h4⟩ := hs.heap.grow id α el e enc L h
    exact ⟨h1, xs, h2.alloc _, h3, fun i x j d u hx hd hu => (h4 i x j d u hx hd hu).mono hle.still⟩

theorem fresh_ok (hs : SR E s σ τ a w) (o : Obj) : (ctxOf E s.H s.nx σ τ (w.alloc o)).ok w.heap.size :=
  ⟨.inr (.inr hs.heap.kept.size), by simp, fun id ho => absurd (owned_lt hs.heap ho) (Nat.lt_irrefl _)⟩

theorem loud_buildSlice (htt : ttOk P tt) {o : Oper} {t : TypeId} {n : Nat} {ps : Array (Nat × Operand)} (ho : o.op = .buildSlice t n ps) {g : Bool} {K : D → St → Prop} (h : buildSliceD tt s t n (partsD s ps.toList) K) : OpVC P g o s K := by
  intro E σ τ a w hs next Q hn
  have hp : repsP (ctxOf E s.H s.nx σ τ w) (partsD s ps.toList) (ps.map fun (x : Nat × Operand) => (x.1, a.eval x.2)).toList := by
    rw [Array.toList_map]; exact partsD_rep hs ps.toList
  unfold buildSliceD at h
  split at h
  · rename_i e _ _ _ ht
    obtain ⟨de, i, z, k1, _, _, k4, _⟩ := view_spec (tfind_view htt ht)
    have := ud_slice k4; subst this
    split at h
    · rename_i ti he
      obtain ⟨_, q, zv, q1, q2, q3, _, q5, _, q7⟩ := view_spec (tfind_view htt he)
      split at h
      · split at h
        · rename_i hps
          have hps' : ps = #[] := by
            have h1 := hp.1
            rw [hps] at h1
            simp at h1
            exact h1
          subst hps'
          have hrun : (execOp a.eval o).run P w = .ok (.value (.slice (some ⟨w.heap.size, 0, none⟩) 0 0)) (w.alloc (.cells #[] e)) := by
            have e0 : Array.range 0 = #[] := Array.eq_empty_of_size_eq_zero (by simp)
            simp [execOp, ho, Instr.buildSlice, run_und k1, run_size q2, Instr.fill, newRow_at, e0]
          unfold Oper.wp
          rw [hrun]
          exact hn _ _ _ _ _ _ h (other_state hs _) .emp (fun _ => (Below.refl _ _).alloc (Nat.le_refl _) _)
        · cases h
      · rename_i n
        split at h
        · cases h
        · rename_i k hk
          split at h
          · rename_i hzl
            have hzl := Nat.eq_of_beq_eq_true hzl
            obtain ⟨hmax, h⟩ := h
            split at h
            · rename_i l hl
              split at h
              · rename_i L hL
                have hzs : zv.cells.size = ti.size := by rw [← hzl, ← q7]; simp
                have hz0 : 0 < ti.size := by omega
                have hrz : reps (ctxOf E s.H s.nx σ τ w) (repeatD (ti.zero.map .v) (n + 1)) ((Array.range ((n + 1) * ti.size)).map (zv.cells[· % zv.cells.size]!)).toList := by
                  refine ⟨by simp [repeatD_length, hzl], fun j d u hd hu => ?_⟩
                  have hj : j < (n + 1) * ti.size := by
                    have := (List.getElem?_eq_some_iff.1 hd).1
                    simpa [repeatD_length, hzl] using this
                  rw [repeatD_get _ _ _ (by simpa [hzl] using hj)] at hd
                  simp only [List.length_map, hzl] at hd
                  have hm : j % ti.size < zv.cells.size := by rw [hzs]; exact Nat.mod_lt _ hz0
                  simp only [Array.toList_map, List.getElem?_map, Array.getElem?_toList, Array.getElem?_range, hj, if_true, Option.map_some, Option.some.injEq, hzs] at hu
                  rw [getElem!_pos zv.cells _ hm] at hu
                  subst hu
                  exact (zero_reps q7).2 (j % ti.size) d _ hd (by simp [hm])
                obtain ⟨c', h1, h2⟩ := fill_run (ctx_sane hs.heap) (fun i => some (i * ti.size, ti.size)) _ _ _ l _ hp hrz hl
                obtain ⟨g1, g2⟩ := chunksD_spec _ _ _ _ hL
                have hrun : (execOp a.eval o).run P w = .ok (.value (.slice (some ⟨w.heap.size, 0, none⟩) (n + 1) (n + 1))) (w.alloc (.cells c' e)) := by
                  have a1 : ¬ (n.succ * ti.size > 2 ^ 24) := fun h9 => absurd hmax (by have h8 : n.succ * ti.size > 16777216 := h9; exact Nat.not_le.2 h8)
                  have a2 : ¬ (n.succ * ti.size = 0) := by
                    have := Nat.mul_pos (Nat.succ_pos n) hz0
                    omega
                  simp only [execOp, ho, Instr.buildSlice, Sem.run_bind, run_und k1, run_size q2, q5, Result.andThen_ok, a1, a2, if_false, zero_run q2 q3, Sem.run_pure, h1, newRow_at]
                unfold Oper.wp
                rw [hrun]
                have hle := other_le hs.heap (.cells c' e)
                refine hn _ _ _ _ _ _ h (other_state hs _) ?_ (fun _ => (Below.refl _ _).alloc (Nat.le_refl _) _)
                have hlen : L.length = n + 1 := g1
                rw [← hlen]
                have hin : ∀ (i : Nat) (x : List D) (j : Nat) d, L[i]? = some x → x[j]? = some d → ∃ u, c'[i * ti.size + j]? = some u ∧ Rep (ctxOf E s.H s.nx σ τ w) d u := by
                  intro i x j d hx hd
                  obtain ⟨rfl, h3⟩ := g2 i x hx
                  have hj : j < ti.size := by have := (List.getElem?_eq_some_iff.1 hd).1; omega
                  rw [List.getElem?_take_of_lt hj, List.getElem?_drop] at hd
                  obtain ⟨u, h4, h5⟩ := reps_get h2 hd
                  exact ⟨u, by simpa using h4, h5⟩
                refine .lit w.heap.size 0 (fun i j => (c'[i * ti.size + j]?).getD undef) rfl (fun _ => ⟨rfl, fresh_ok hs _⟩) (fun i x hx => (g2 i x hx).2) (fun i x j d hx hd => ?_) (fun i x j d hx hd => ?_)
                · obtain ⟨u, h4, _⟩ := hin i x j d hx hd
                  have hc : (ctxOf E s.H s.nx σ τ (w.alloc (.cells c' e))).w.cell? ⟨w.heap.size, 0 + i * ti.size + j, none⟩ = c'[i * ti.size + j]? := by
                    rw [Nat.zero_add]; exact World.cell?_alloc_mark w c' e _ _
                  rw [hc, h4]; rfl
                · obtain ⟨u, h4, h5⟩ := hin i x j d hx hd
                  rw [h4]; exact h5.mono hle
              · cases h
            · cases h
          · cases h
    · cases h
  · cases h

theorem upon_call {o : Oper} {a : Act} {next : Act → World → Prop} {Q : Exit → Act → World → Prop} {w w' : World} {f : FuncId} {args : Array Value} (hr : (execOp a.eval o).run P w = .ok (.enter f args) w')
    (h : Calls P f args w' fun e w'' => ∃ v, e = .returned v ∧ next (a.put o.dst v) w'') : o.wp P a w next Q := by
  unfold Oper.wp; rw [hr]
  show Calls P f args w' _
  refine h.mono fun e w'' hh => ?_
  obtain ⟨v, rfl, hv⟩ := hh
  exact hv

def entersAll (P : Program) : Bool := P.funcs.toList.all fun fn => fn.body.isNone || fn.name != "runtime.NumGoroutine"

theorem call_enters (hc : entersAll P = true) {g : FuncId} {fn : Func} (hg : P.funcs[g]? = some fn) (hb : fn.body.isSome = true) (args : Array Value) (w : World) : (callFunc g args).run P w = .ok (.enter g args) w := by
  have h2 : fn.body.isNone = false := by cases hf : fn.body <;> simp_all
  have hn : (fn.name == "runtime.NumGoroutine") = false := by
    have h1 := List.all_eq_true.1 hc fn (by
      rw [Array.getElem?_eq_some_iff] at hg
      obtain ⟨hl, rfl⟩ := hg
      simp)
    rw [h2, Bool.false_or] at h1
    simpa [bne] using h1
  unfold callFunc
  simp only [program, Sem.run_bind, Sem.run, Result.andThen_ok, hg, hn, h2, Bool.false_eq_true, if_false]
  rfl

end
end Go.Proofs.Ytfghccppoilfhaa.V
