/-
  What pure operations yield, part 4: slices, lengths, structs that are built; all pure operations. Condition: the table of types says what the program's says.
-/
import Derived.Test.YtfghccppoilfhaaVe
namespace Go.Proofs.Ytfghccppoilfhaa.V
open Go.RowKit

section
variable {P : Program} {tt : TT} {C : Ctx}

theorem ctx_sane {E : Env} {H : List (Nat × LO)} {nx : Nat} {σ : Nat → Nat} {τ : Nat → Value} {w : World} (h : HR E H nx σ τ w) : (ctxOf E H nx σ τ w).Sane :=
  ⟨fun _ _ _ hv => ⟨_, hv.2⟩, fun id v hv => by obtain ⟨p, l, c, e⟩ := h.slices id; exact ⟨p, l, c, hv.2.trans e⟩, fun _ _ _ hv => ⟨_, hv.2⟩⟩

theorem one_cells {u : Value} (h : u.oneCell' = true) : u.cells.toList = [u] := by cases u <;> first | rfl | (simp [Value.oneCell'] at h)

theorem cells_rep (hs : C.Sane) {d : D} {u : Value} {c : List D} (h : cellsD d = some c) (hr : Rep C d u) : reps C c u.cells.toList := by
  have one : ∀ {d : D} {u : Value}, Rep C d u → u.oneCell' = true → reps C [d] u.cells.toList := fun hr h1 => by rw [one_cells h1]; exact reps_cons hr reps_nil
  cases hr with
  | v =>
    cases u <;> simp only [cellsD, Option.some.injEq] at h <;> first | (cases h; done) | (subst h; exact one .v rfl)
  | agg h1 h2 =>
    simp only [cellsD, Option.some.injEq] at h; subst h
    exact ⟨by simpa [Value.cells] using h1, fun j d u a b => h2 j d u a (by simpa [Value.cells] using b)⟩
  | tup h1 h2 => cases h
  | rows b o g hc hp hl hcell hrep => simp only [cellsD, Option.some.injEq] at h; subst h; exact one (.rows b o g hc hp hl hcell hrep) rfl
  | lit b o g hc hp hl hcell hrep => simp only [cellsD, Option.some.injEq] at h; subst h; exact one (.lit b o g hc hp hl hcell hrep) rfl
  | emp => simp only [cellsD, Option.some.injEq] at h; subst h; exact one .emp rfl
  | fp g hk hcell hrep => simp only [cellsD, Option.some.injEq] at h; subst h; exact one (.fp g hk hcell hrep) rfl
  | loc hl => simp only [cellsD, Option.some.injEq] at h; subst h; obtain ⟨a, rfl⟩ := hs.loc _ _ _ hl; exact one (.loc hl) rfl
  | grow hl => simp only [cellsD, Option.some.injEq] at h; subst h; obtain ⟨p, l, c, rfl⟩ := hs.grow _ _ hl; exact one (.grow hl) rfl
  | win hl hc => simp only [cellsD, Option.some.injEq] at h; subst h; exact one (.win hl hc) rfl
  | cut hl hc => simp only [cellsD, Option.some.injEq] at h; subst h; exact one (.cut hl hc) rfl
  | cap hl hc => simp only [cellsD, Option.some.injEq] at h; subst h; exact one (.cap hl hc) rfl
  | asl hl => simp only [cellsD, Option.some.injEq] at h; subst h; exact one (.asl hl) rfl
  | op hl => simp only [cellsD, Option.some.injEq] at h; subst h; obtain ⟨a, rfl⟩ := hs.op _ _ _ hl; exact one (.op hl) rfl
  | fn h1 h2 h3 h4 => simp only [cellsD, Option.some.injEq] at h; subst h; exact one (.fn h1 h2 h3 h4) rfl
  | iface h1 => simp only [cellsD, Option.some.injEq] at h; subst h; exact one (.iface h1) rfl
  | mapr hl => simp only [cellsD, Option.some.injEq] at h; subst h; exact one (.mapr hl) rfl
  | sp S hA hS => simp only [cellsD, Option.some.injEq] at h; subst h; exact one (.sp S hA hS) rfl
  | junk => cases h

/-! ### Structs that are built -/
theorem foldl_put (off : Nat) : ∀ (l : List Value) (k : Nat) (c : Array Value), ((l.zipIdx k).foldl (fun cs x => cs.setIfInBounds (off + x.2) x.1) c).size = c.size ∧
    ∀ i, ((l.zipIdx k).foldl (fun cs x => cs.setIfInBounds (off + x.2) x.1) c)[i]? = if off + k ≤ i ∧ i < off + k + l.length ∧ i < c.size then l[i - (off + k)]? else c[i]? := by
  intro l
  induction l with
  | nil => intro k c; exact ⟨rfl, fun i => by rw [if_neg (by simp only [List.length_nil]; omega)]; rfl⟩
  | cons v l ih =>
    intro k c
    simp only [List.zipIdx_cons, List.foldl_cons]
    obtain ⟨h1, h2⟩ := ih (k + 1) (c.setIfInBounds (off + k) v)
    refine ⟨by rw [h1]; simp, fun i => ?_⟩
    rw [h2 i]
    simp only [Array.size_setIfInBounds, List.length_cons]
    by_cases h : off + (k + 1) ≤ i ∧ i < off + (k + 1) + l.length ∧ i < c.size
    · rw [if_pos h, if_pos (by omega), show i - (off + k) = (i - (off + (k + 1))) + 1 by omega, List.getElem?_cons_succ]
    · rw [if_neg h, Array.getElem?_setIfInBounds]
      by_cases hi : off + k = i
      · subst hi
        by_cases hc : off + k < c.size
        · rw [if_pos rfl, if_pos hc, if_pos (by omega)]; simp
        · rw [if_pos rfl, if_neg hc, if_neg (by omega), Array.getElem?_eq_none (by omega)]
      · rw [if_neg hi, if_neg (by omega)]

def repsP (C : Ctx) (l : List (Nat × D)) (c : List (Nat × Value)) : Prop := c.length = l.length ∧ ∀ (j : Nat) x u, l[j]? = some x → c[j]? = some u → u.1 = x.1 ∧ Rep C x.2 u.2

theorem fill_run (hs : C.Sane) (place : Nat → Option (Nat × Nat)) : ∀ (ps : List (Nat × D)) (us : List (Nat × Value)) (l l' : List D) (c : Array Value), repsP C ps us → reps C l c.toList → fillD place l ps = some l' →
    ∃ c', Instr.fill place c us = some c' ∧ reps C l' c'.toList := by
  intro ps
  induction ps with
  | nil =>
    intro us l l' c h1 h2 h3
    have : us = [] := List.eq_nil_of_length_eq_zero h1.1
    subst this
    have : l' = l := by cases l <;> simpa [fillD, eq_comm] using h3
    subst this
    exact ⟨c, rfl, h2⟩
  | cons p ps ih =>
    intro us l l' c h1 h2 h3
    cases us with
    | nil => have := h1.1; simp at this
    | cons u us =>
      obtain ⟨i, d⟩ := p
      obtain ⟨i', v⟩ := u
      obtain ⟨e1, hv⟩ := h1.2 0 _ _ rfl rfl
      simp only at e1 hv
      subst e1
      have htl : repsP C ps us := ⟨by have := h1.1; simpa using this, fun j x u a b => h1.2 (j + 1) x u (by simpa using a) (by simpa using b)⟩
      unfold fillD at h3
      split at h3
      · rename_i o n cs hp hc
        split at h3
        · rename_i hn
          have hn : lenL cs = n := Nat.eq_of_beq_eq_true hn
          rw [lenL_eq] at hn
          split at h3
          · rename_i l1 hput
            obtain ⟨g1, g2, g3⟩ := putD_spec _ _ _ _ hput
            have hcs := cells_rep hs hc hv
            have hsz : v.cells.size = n := by have := hcs.1; simpa [hn] using this
            have hcl : c.size = l.length := by have := h2.1; simpa using this
            unfold Instr.fill
            rw [hp]
            simp only
            rw [if_neg (by simp only [ne_eq, Bool.or_eq_true, decide_eq_true_eq, Bool.not_eq_true', not_or]; exact ⟨by simp [hsz], by omega⟩)]
            have hf := foldl_put o v.cells.toList 0 c
            have e3 : v.cells.zipIdx.foldl (fun cs x => cs.setIfInBounds (o + x.2) x.1) c = (v.cells.toList.zipIdx 0).foldl (fun cs x => cs.setIfInBounds (o + x.2) x.1) c := by rw [← Array.foldl_toList, Array.toList_zipIdx]
            have e4 : v.cells.zipIdx.foldl (fun cs x => match x with | (c, j) => cs.setIfInBounds (o + j) c) c = (v.cells.toList.zipIdx 0).foldl (fun cs x => cs.setIfInBounds (o + x.2) x.1) c := e3
            rw [e4]
            refine ih us l1 l' _ htl ⟨by simp only [Array.length_toList, hf.1]; omega, fun j d u hd hu => ?_⟩ h3
            have hu' := hf.2 j
            rw [Array.getElem?_toList, hu'] at hu
            rw [g3 j] at hd
            simp only [Nat.add_zero] at hu
            by_cases hj : o ≤ j ∧ j < o + cs.length
            · rw [if_pos hj] at hd
              rw [if_pos (by simp only [Array.length_toList, hsz]; omega)] at hu
              exact hcs.2 (j - o) d u hd hu
            · rw [if_neg hj] at hd
              rw [if_neg (by simp only [Array.length_toList, hsz]; omega)] at hu
              exact h2.2 j d u hd (by simpa using hu)
          · cases h3
        · cases h3
      · cases h3

theorem zero_reps {z : Value} {l : List Value} (h : z.cells.toList = l) : reps C (l.map .v) z.cells.toList := by
  subst h
  refine ⟨by simp, fun j d u hd hu => ?_⟩
  rw [List.getElem?_map, hu] at hd
  simp only [Option.map_some, Option.some.injEq] at hd
  subst hd; exact .v

theorem places_run (htt : ttOk P tt) : ∀ (fs : List Field) (pl : List (Nat × Nat)), placesD tt (fs.map fun f => (f.offset, f.type)) = some pl → ∀ w, Sem.run P (fs.mapM fun f => (do pure (f.offset, ← Go.sizeOf f.type) : Sem (Nat × Nat))) w = .ok pl w
  | [], pl, h, w => by simp only [List.map_nil, placesD, Option.some.injEq] at h; subst h; simp
  | f :: fs, pl, h, w => by
    simp only [List.map_cons, placesD] at h
    split at h
    · rename_i ti l h1 h2
      injection h with h; subst h
      obtain ⟨d, i, z, _, g2, _, _, g5, _⟩ := view_spec (tfind_view htt h1)
      have := places_run htt fs l h2 w
      simp only [List.mapM_cons, Sem.run_bind, run_size g2, Result.andThen_ok, Sem.run_pure, this, g5]
    · cases h

theorem zero_run {t : TypeId} {i : TypeInfo} {z : Value} (hi : P.info? t = some i) (hz : i.zero = some z) (w : World) : (zeroValue t).run P w = .ok z w := by simp [zeroValue, typeInfo, hi, hz]

theorem buildD_run (htt : ttOk P tt) (hs : C.Sane) {t : TypeId} {ps : List (Nat × D)} {us : Array (Nat × Value)} {K : D → Prop} (h : buildD tt t ps K) (hp : repsP C ps us.toList) :
    ∃ d v, K d ∧ Rep C d v ∧ ∀ w, (Instr.build t us).run P w = .ok v w := by
  unfold buildD at h
  split at h
  · rename_i fs sz by_ z ht
    obtain ⟨de, i, zv, k1, k2, k3, k4, _, _, k7⟩ := view_spec (tfind_view htt ht)
    obtain ⟨f, rfl, hf⟩ := ud_struct k4
    split at h
    · rename_i pl hpl
      split at h
      · rename_i l hl
        obtain ⟨c', h1, h2⟩ := fill_run hs (fun i : Nat => pl[i]?) ps us.toList _ l zv.cells hp (zero_reps k7) hl
        subst hf
        have hm := places_run (P := P) htt f.toList pl hpl
        refine ⟨_, .agg c', h, reps_agg h2, fun w => ?_⟩
        have hm' : Sem.run P (f.mapM fun f => (do pure (f.offset, ← Go.sizeOf f.type) : Sem (Nat × Nat))) w = .ok pl.toArray w := by
          rw [Array.mapM_eq_mapM_toList]
          simp only [Sem.run_map, hm, Result.andThen_ok]
        simp only [Instr.build, Sem.run_bind, zero_run k2 k3, Result.andThen_ok, run_und k1, hm']
        have e : (fun x : Nat => pl.toArray[x]?) = fun i : Nat => pl[i]? := by funext x; simp
        simp only [e, h1, Sem.run_pure]
      · cases h
    · cases h
  · rename_i n e sz by_ z ht
    obtain ⟨de, i, zv, k1, k2, k3, k4, _, _, k7⟩ := view_spec (tfind_view htt ht)
    have := ud_array k4; subst this
    split at h
    · rename_i ti he
      obtain ⟨_, q, _, _, q2, _, _, q5, _⟩ := view_spec (tfind_view htt he)
      split at h
      · rename_i l hl
        obtain ⟨c', h1, h2⟩ := fill_run hs (fun i => some (i * ti.size, ti.size)) ps us.toList _ l zv.cells hp (zero_reps k7) hl
        refine ⟨_, .agg c', h, reps_agg h2, fun w => ?_⟩
        simp only [Instr.build, Sem.run_bind, zero_run k2 k3, Result.andThen_ok, run_und k1, run_size q2, q5, h1, Sem.run_pure]
      · cases h
    · cases h
  · cases h
end
end Go.Proofs.Ytfghccppoilfhaa.V
