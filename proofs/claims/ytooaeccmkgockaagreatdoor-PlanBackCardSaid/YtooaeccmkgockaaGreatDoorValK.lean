/-
  append to a row that a literal made: always a new row. Condition: the table of types says what the program's says.
-/
import Derived.Test.YtooaeccmkgockaaGreatDoorVexK
namespace Go.Proofs.YtooaeccmkgockaaGreatDoor.V
open Go.RowKit

section
variable {P : Program} {tt : TT} {E : Env} {s : St} {σ : Nat → Nat} {τ : Nat → Value} {a : Act} {w : World}

theorem op_appendLit (htt : ttOk P tt) {o : Oper} {x y : Operand} {t el : TypeId} {sz by_ : Nat} {zz : List Value} {ti : TI} {k : Nat} {LL new : List (List D)} {β : Type} {enc : β → List D} {L : List β} (ho : o.op = .call { callee := .builtin .append, args := #[x, y], argTypes := #[t, t] }) (hx : evD s x = .lit k LL) (ht : tfind tt t = some ⟨.slice el, sz, by_, zz⟩) (he : tfind tt el = some ti)
    (hk : ti.size = k) (hk0 : 0 < k) (hzl : ti.zero.length = k) (hnil : LL ≠ []) (hst : litStill (.lit k LL) = true) (hy : srcRows s k (evD s y) = some new) (hyst : litStill (evD s y) = true) (hnew : 0 < new.length) (hL : L.map enc = LL ++ new) (hones : ∀ y, onesD (enc y) = true)
    (hb : L.length ≤ 1099511627776) (hby : L.length * ti.bytes ≤ 140737488355328) {K : D → St → Prop} (h : K (.grow s.nx) ⟨s.F, (s.nx, .grow β el k enc L) :: s.H, s.nx + 1, s.G⟩) : OpVC P false o s K := by
  intro E σ τ a w hs next Q hn
  obtain ⟨de, i, z, k1, _, _, k4, _⟩ := view_spec (tfind_view htt ht)
  have := ud_slice k4; subst this
  obtain ⟨_, q, zv, _, q2, q3, _, q5, q6, q7⟩ := view_spec (tfind_view htt he)
  have hxr := evD_rep hs x
  have hyr := evD_rep hs y
  have hlen : L.length = LL.length + new.length := by have := congrArg List.length hL; simpa using this
  -- the old cells
  have hsx : srcRows s k (evD s x) = some LL := by rw [hx]; show (match Nat.beq k k with | true => some LL | false => none) = _; rw [Nat.beq_refl]
  obtain ⟨p0, c0, olds, hv0, hol, holen, horep, hosrc⟩ := src_spec hs hk0 hsx (by rw [hx]; exact hst) hxr
  have hc0 : c0 = LL.length := by
    rw [hx] at hxr
    generalize a.eval x = u at hxr hv0
    cases hxr with
    | lit b o g hc hp hl hcell hrep => injection hv0 with _ _ e3; subst e3; exact hc.symm
  subst hc0
  obtain ⟨b0, o0, hp0, hcells0⟩ : ∃ b o, p0 = some ⟨b, o, none⟩ ∧ cellsAt w b o olds := by
    rcases hosrc with h | h
    · exact absurd h hnil
    · exact h
  subst hp0
  obtain ⟨p, c, news, hu, hnl, hnlen, hnrep, hsrc⟩ := src_spec hs hk0 hy hyst hyr
  obtain ⟨b, of, rfl, hcells⟩ : ∃ b o, p = some ⟨b, o, none⟩ ∧ cellsAt w b o news := by
    rcases hsrc with h | h
    · subst h; simp at hnew
    · exact h
  have hget : ∀ (i : Nat) y, L[i]? = some y → (LL ++ new)[i]? = some (enc y) := by
    intro i y hy
    rw [← hL, List.getElem?_map, hy]; rfl
  have hel : ∀ (i : Nat) y, L[i]? = some y → (enc y).length = k := by
    intro i y hy
    have h1 := hget i y hy
    by_cases hi : i < LL.length
    · rw [List.getElem?_append_left hi] at h1; exact holen i _ h1
    · rw [List.getElem?_append_right (by omega)] at h1; exact hnlen _ _ h1
  have hrep : ∀ (i : Nat) y (j : Nat) d u, L[i]? = some y → (enc y)[j]? = some d → (olds ++ news)[i * k + j]? = some u → Rep (ctxOf E s.H s.nx σ τ w).still d u := by
    intro i y j d u hy hd hu
    have h1 := hget i y hy
    have hj : j < k := by have := (List.getElem?_eq_some_iff.1 hd).1; rw [hel i y hy] at this; exact this
    by_cases hi : i < LL.length
    · rw [List.getElem?_append_left hi] at h1
      have hb : i * k + k ≤ LL.length * k := by
        have := Nat.mul_le_mul_right k (show i + 1 ≤ LL.length from hi)
        rw [Nat.succ_mul] at this; exact this
      rw [List.getElem?_append_left (by rw [hol]; omega)] at hu
      exact horep i _ j d u h1 hd hu
    · rw [List.getElem?_append_right (by omega)] at h1
      have hb : i * k = LL.length * k + (i - LL.length) * k := by rw [← Nat.add_mul]; congr 1; omega
      rw [List.getElem?_append_right (by rw [hol]; omega), hol] at hu
      rw [show i * k + j - LL.length * k = (i - LL.length) * k + j by omega] at hu
      exact hnrep _ _ j d u h1 hd hu
  have h1c : ∀ u ∈ news, u.oneCell' = true := by
    intro u hu
    obtain ⟨m, hm⟩ := List.mem_iff_getElem?.1 hu
    have hkl : m < new.length * k := by have := (List.getElem?_eq_some_iff.1 hm).1; omega
    have hi : m / k < new.length := Nat.div_lt_of_lt_mul (by rw [Nat.mul_comm]; exact hkl)
    have hnl2 : new[m / k]? = some new[m / k] := List.getElem?_eq_getElem hi
    have hl2 := hnlen _ _ hnl2
    have hmem : new[m / k] ∈ L.map enc := by rw [hL]; exact List.mem_append_right _ (List.getElem_mem hi)
    obtain ⟨y, _, hy⟩ := List.mem_map.1 hmem
    have hj : m % k < k := Nat.mod_lt _ hk0
    have hsub : reps (ctxOf E s.H s.nx σ τ w).still new[m / k] ((news.drop (m / k * k)).take k) := by
      have hb : m / k * k + k ≤ new.length * k := by
        have := Nat.mul_le_mul_right k (show m / k + 1 ≤ new.length from hi)
        rw [Nat.succ_mul] at this; exact this
      refine ⟨by simp; omega, fun j d v hd hv => ?_⟩
      have hj2 : j < k := by have := (List.getElem?_eq_some_iff.1 hd).1; omega
      rw [List.getElem?_take_of_lt hj2, List.getElem?_drop] at hv
      exact hnrep _ _ j d v hnl2 hd hv
    have hsane : (ctxOf E s.H s.nx σ τ w).still.Sane := ⟨fun _ _ _ h => h.elim, fun _ _ h => h.elim, fun _ _ _ h => h.elim⟩
    refine ones_rep hsane (by rw [← hy]; exact hones y) hsub u ?_
    have hdm : m / k * k + m % k = m := Nat.div_add_mod' m k
    refine List.mem_of_getElem? (i := m % k) ?_
    rw [List.getElem?_take_of_lt hj, List.getElem?_drop, hdm]
    exact hm
  have hml : (maxLen : Nat) = 9223372036854775807 := by decide
  have hqs : q.size = k := by rw [q5, hk]
  have hzs : zv.cells.size = k := by rw [← hzl, ← q7]; simp
  have hsr : Src P q.size t (a.eval y) new.length news w := by
    rw [hu]
    exact Src.ofSlice w k1 _ _ c news (by rw [hnl, hqs]) (fun j u hj => by rw [addr_add]; exact hcells j u hj) h1c
  have hold := run_firstCells_some (P := P) w.drew q.size LL.length ⟨b0, o0, none⟩ LL.length LL.length olds (by rw [hol, hqs]) (fun j u hj => by rw [addr_add]; exact hcells0 j u hj)
  have hg : LL.length < LL.length + new.length := by omega
  have hrun := run_append_grow_src (P := P) w t t o.type el q zv k1 q2 q3 (some ⟨b0, o0, none⟩) LL.length LL.length olds hold (a.eval y) new.length news hsr hg (by omega) (growslice_fits hg (by rw [q6, ← hlen]; exact hby))
  rw [← hlen] at hrun
  have hge := grownCap_ge w L.length LL.length el
  have hmx := grownCap_le_maxLen w L.length LL.length el (by rw [hml]; omega)
  generalize grownCap w L.length LL.length el = cap at *
  generalize hobj : (olds ++ news).toArray ++ Builtin.zeroCells zv.cells (cap - L.length) = cur at hrun
  have hcs : cur.size = cap * k := by
    rw [← hobj, Array.size_append, List.size_toArray, List.length_append, hol, hnl, size_zeroCells, hzs, ← Nat.add_mul, ← hlen, ← Nat.add_mul]
    congr 1; omega
  have htk : cur.toList.take (L.length * k) = olds ++ news := by
    rw [← hobj, Array.toList_append, List.take_append_of_le_length (by rw [List.length_append, hol, hnl, ← Nat.add_mul, hlen]; exact Nat.le_refl _)]
    exact List.take_of_length_le (by rw [List.length_append, hol, hnl, ← Nat.add_mul, hlen]; exact Nat.le_refl _)
  have hown : (w.drew.alloc (.cells cur el)).ownsRow 0 el k (.slice (some ⟨w.heap.size, 0, none⟩) L.length cap) L.length (olds ++ news) := by
    refine ⟨by rw [List.length_append, hol, hnl, ← Nat.add_mul, hlen], .inr ⟨w.heap.size, cap, cur, rfl, Nat.zero_le _, heap_alloc_new w.drew _, hge, hmx, hcs, htk⟩⟩
  obtain ⟨F, H, nx, G⟩ := s
  obtain ⟨τ', r6, r7⟩ := grow_state (dst := .v (.slice none 0 0)) (u := .slice none 0 0) (el := el) (e := k) (old := []) (w' := w.drew.alloc (.cells cur el)) (drew_state hs) (by simp [ownRows]) .v (Nat.le_refl _) (World.grownBy_alloc w.drew _ _) (.inr (.inr rfl)) ⟨_, _, _, rfl⟩ (β := β) (enc := enc) (L := L) hown hel fun i y j d u h1 h2 h3 => (hrep i y j d u h1 h2 h3).mono ⟨fun _ _ _ h => h, fun _ h => h, fun _ _ _ h => h, fun _ _ h => h, fun _ _ _ h => h⟩
  have hexec : (execOp a.eval o).run P w = .ok (.value (.slice (some ⟨w.heap.size, 0, none⟩) L.length cap)) (w.drew.alloc (.cells cur el)) := by
    simp only [execOp, ho, resolve, invoke, builtin]
    simp [hv0, hrun]
  unfold Oper.wp
  rw [hexec]
  exact hn _ _ _ _ _ _ h r6 (.grow ⟨Nat.lt_succ_self _, r7.symm⟩) (fun h => by cases h)
end
end Go.Proofs.YtooaeccmkgockaaGreatDoor.V
