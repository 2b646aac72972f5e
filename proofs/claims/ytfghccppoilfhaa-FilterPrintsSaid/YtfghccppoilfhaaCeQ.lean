/-
  The same, part 12: regions that draw their order. Conditions: the types' zero values bear no address; functions are entered.
-/
import Derived.Test.YtfghccppoilfhaaCeO
namespace Go.Proofs.Ytfghccppoilfhaa
open Go.RowKit

section
variable {P : Program} {R : Ref} {σ : Ren} {ops : Array Oper}

theorem ofCells_run {d : TypeDesc} {ty : TypeId} {i : TypeInfo} (hu : P.underlying ty = some d) (hi : P.info? ty = some i) {l l' : List Value} {v : Value} (h : ofCells d l = some v) (hl : RelL σ l l') (hlen : l'.length = i.size) {a : Addr} {w : World}
    (hc : ∀ j u, l'[j]? = some u → w.cell? (a.add j) = some u) : ∃ v', ofCells d l' = some v' ∧ RelV σ v v' ∧ (Instr.loadAt ty (.pointer (some a))).run P w = .ok v' w := by
  have hcells : (Go.loadCells a i.size).run P w = .ok l'.toArray w := by
    have := run_firstCells_some (P := P) w i.size 1 a 1 1 l' (by omega) hc
    simpa [Builtin.firstCells] using this
  have hsz : (Go.sizeOf ty).run P w = .ok i.size w := by simp [Go.sizeOf, typeInfo, hi]
  have agg : (Go.isAgg ty).run P w = .ok true w → (Instr.loadAt ty (.pointer (some a))).run P w = .ok (.agg l'.toArray) w := fun hb => by
    simp only [Instr.loadAt, Instr.sureAddr, Go.loadVar, Sem.run_bind, Sem.run_pure, Result.andThen_ok, hb, if_true, hsz, hcells]
  unfold ofCells at h
  split at h
  · injection h with h; subst h
    exact ⟨_, rfl, hl.toVs.mkAgg, agg (by simp [Go.isAgg, run_underlying hu])⟩
  · injection h with h; subst h
    exact ⟨_, rfl, hl.toVs.mkAgg, agg (by simp [Go.isAgg, run_underlying hu])⟩
  · rename_i x h1 h2
    injection h with h; subst h
    match l', hl.size with
    | [y], _ =>
      have hb : (Go.isAgg ty).run P w = .ok false w := by
        unfold Go.isAgg
        rw [Sem.run_bind, run_underlying hu]
        cases d <;> first | rfl | exact absurd rfl (h1 _) | exact absurd rfl (h2 _ _)
      have hc0 := hc 0 y rfl
      rw [addr_add_zero] at hc0
      refine ⟨y, ?_, hl.cons_inv.1, ?_⟩
      · cases d <;> first | rfl | exact absurd rfl (h1 _) | exact absurd rfl (h2 _ _)
      · simp [Instr.loadAt, Instr.sureAddr, Go.loadVar, hb, Go.load, Sem.run, hc0]
  · cases h

theorem loadFirst_sound {σ0 : Ren} (hx : Ext σ0 σ) {m0 m : AM} {w0 w : World} (h0 : WR R σ0 m0 w0) (hw : WR R σ m w) {n : Nat} {t : Tr Value} {a : Act} (ht : RelT σ n t a) {i : Nat} {o : Oper} {v : Value} {r : Seen} (h : loadFirst P m0 m t i o = some (v, r)) :
    ∃ v' b off k e, ∃ Y : World → Prop, r = [(i, b, off, k)] ∧ σ0.ent b = some e ∧ RelV σ v v' ∧ Y w ∧
      (∀ w1 w2 : World, (∀ j, j < k → w2.cell? ⟨e.blk, off + j + e.sh, none⟩ = w1.cell? ⟨e.blk, off + j + e.sh, none⟩) → (k = 0 → w2.heap[e.blk]? = w1.heap[e.blk]?) → Y w1 → Y w2) ∧
      ∀ w1 : World, Y w1 → (execOp a.eval o).run P w1 = .ok (.value v') w1 := by
  obtain ⟨dst, op, ty0, pos, after, guard⟩ := o
  unfold loadFirst at h
  unfold execOp
  cases op with
  | load ty x =>
    simp only at h ⊢
    split at h
    · rename_i hok
      have hv := ht.eval x hok
      split at h
      · rename_i p q d hp hi hd
        split at h
        · rename_i hcc
          obtain ⟨hspot, hpos, hin⟩ := hcc
          split at h
          · rename_i l hl
            split at h
            · rename_i u hu
              injection h with h; injection h with e1 e2; subst e1 e2
              rw [hp] at hv
              obtain ⟨p', ep, ha⟩ := hv.addr
              obtain ⟨e, he, hsp, rfl⟩ := ha
              have hent : σ0.ent p.block = some e := by
                cases hg : m0.get p.block with
                | none => rw [hg] at hin; cases hin
                | some ob =>
                  obtain ⟨e1, o1, q1, _, _⟩ := h0.obj _ _ hg
                  have := hx.ent _ _ q1
                  rw [he] at this; injection this with this; subst this; exact q1
              obtain ⟨g0, l', g1, g2, g3⟩ := absCells_sound hw (a := p) (a' := ⟨e.blk, p.off + e.sh, none⟩) ⟨e, he, hspot, rfl⟩ hl
              have hadd : ∀ j, (⟨e.blk, p.off + e.sh, none⟩ : Addr).add j = ⟨e.blk, p.off + j + e.sh, none⟩ := by
                intro j; unfold Addr.add; split
                · rename_i hj; subst hj; rfl
                · simp only [Addr.mk.injEq, true_and, and_true]; omega
              obtain ⟨v', q1, q2, _⟩ := ofCells_run (P := P) hd hi hu g1 g2 g3
              refine ⟨v', _, _, _, e, fun w => ∀ j, j < q.size → w.cell? ⟨e.blk, p.off + j + e.sh, none⟩ = l'[j]?, rfl, hent, q2, fun j hj => ?_, fun w1 w2 h8 _ h9 j hj => by rw [h8 j hj]; exact h9 j hj, fun w1 hw1 => ?_⟩
              · have hjl : j < l'.length := by omega
                rw [← hadd, g3 j l'[j] (List.getElem?_eq_getElem hjl), List.getElem?_eq_getElem hjl]
              · have hc : ∀ j u, l'[j]? = some u → w1.cell? ((⟨e.blk, p.off + e.sh, none⟩ : Addr).add j) = some u := by
                  intro j u hj
                  have hjl : j < q.size := by have := (List.getElem?_eq_some_iff.1 hj).1; omega
                  rw [hadd, hw1 j hjl, hj]
                obtain ⟨v2, q3, _, q5⟩ := ofCells_run (P := P) (w := w1) hd hi hu g1 g2 hc
                rw [q1] at q3; injection q3 with q3; subst q3
                rw [ep]
                simp [q5]
            · cases h
          · cases h
        · cases h
      · cases h
    · cases h
  | lookup ty x k ok =>
    simp only at h ⊢
    split at h
    · rename_i hok
      have hv := ht.eval x hok.1
      have hk := ht.eval k hok.2
      split at h
      · rename_i b hb
        split at h
        · rename_i hin
          split at h
          · rename_i u hu
            injection h with h; injection h with e1 e2; subst e1 e2
            rw [hb] at hv
            obtain ⟨e, he, hev⟩ : ∃ e, σ.ent b = some e ∧ a.eval x = .map (some e.blk) := by
              generalize a.eval x = y at hv
              cases hv with
              | map he => exact ⟨_, he, rfl⟩
            · have hent : σ0.ent b = some e := by
                cases hg : m0.get b with
                | none => rw [hg] at hin; cases hin
                | some ob =>
                  obtain ⟨e1, o1, q1, _, _⟩ := h0.obj _ _ hg
                  have := hx.ent _ _ q1
                  rw [he] at this; injection this with this; subst this; exact q1
              obtain ⟨v', es', ck, g1, g2, g3⟩ := absLookup_at hw he hk hu
              refine ⟨v', _, _, _, e, fun w => w.heap[e.blk]? = some (.map es' ck), rfl, hent, g2, g1, fun w1 w2 _ h8 h9 => (h8 rfl).trans h9, fun w1 hw1 => ?_⟩
              have := g3 w1 hw1
              rw [hev]
              simp [this]
          · cases h
        · cases h
      · cases h
    · cases h
  | _ => simp only at h; cases h

theorem sureAlloc_run {o : Oper} (h : sureAlloc P o = true) (ρ : Operand → Value) : ∃ obj sh, ∀ w : World, (execOp ρ o).run P w = .ok (.value (shapeV sh w.heap.size)) (w.alloc obj) := by
  obtain ⟨dst, op, ty, pos, after, guard⟩ := o
  unfold sureAlloc at h
  unfold execOp
  cases op with
  | alloc t =>
    simp only at h ⊢
    cases hz : peel P (zeroValue t) with
    | none => rw [hz] at h; cases h
    | some z =>
      refine ⟨.cells z.cells t, .ptr, fun w => ?_⟩
      simp only [Instr.alloc, Sem.run_bind, peel_run hz, Result.andThen_ok, Go.newVar, newRow_run, Sem.run_pure]
      rfl
  | box t x =>
    simp only
    refine ⟨.cells (ρ x).cells t, .ptr, fun w => ?_⟩
    simp only [Instr.box, Sem.run_bind, Go.newVar, newRow_run, Result.andThen_ok, Sem.run_pure]
    rfl
  | _ => simp only at h; cases h

theorem freshOp_spec {o : Oper} (h : freshOp o = true) : o.guard = none ∧ ∃ d, o.dst = some d := by
  unfold freshOp at h
  simp only [Bool.and_eq_true] at h
  obtain ⟨⟨h1, h2⟩, _⟩ := h
  refine ⟨by simpa using h1, ?_⟩
  cases hd : o.dst with
  | none => rw [hd] at h2; cases h2
  | some d => exact ⟨d, rfl⟩

theorem wanted_free {o : Oper} (h : o.guard = none) (y : Nat → Option Bool) : Region.wanted o y = true := by
  unfold Region.wanted; rw [h]

theorem earlyOk_spec {t : Tr Value} {LF F : Nat} : ∀ (l : DPlan), earlyOk P t LF F l = true → ∀ q ∈ l, q.k = .fresh → subB q.wt LF = false ∨ sureAlloc P q.o = true ∨ (apartB q.wt F = true ∧ (absAlloc P (aev t) q.o).isSome = true)
  | [], _, _, h, _ => by cases h
  | p :: r, h, q, hq, hk => by
    simp only [earlyOk, Bool.and_eq_true, Bool.or_eq_true, Bool.not_eq_true'] at h
    rcases List.mem_cons.1 hq with rfl | hq
    · rcases h.1 with ((h1 | h1) | h1) | h1
      · rw [hk] at h1; cases h1
      · exact .inl h1
      · exact .inr (.inl h1)
      · exact .inr (.inr h1)
    · exact earlyOk_spec r h.2 q hq hk

theorem drawn_J (hz : zerosOk P = true) (hc : callsOk P = true) {call : Callee1} {T : (Nat → Value) → Prop} (hcall : CallOk P T call) {n : Nat} (hsel : ∀ (j : Nat) (o : Oper) cs b, ops[j]? = some o → o.op ≠ .select cs b)
    {Q : Exit → Act → World → Prop} (hQ : ∀ c a w, ¬ Q (.panic c) a w) {σ0 : Ren} (hT : T σ0.env) {m0 : AM} {w0 : World} (h0 : WR R σ0 m0 w0) {RD : Seen} :
    ∀ (N fuel : Nat) (plan : DPlan) (D : Array Bool) (L : Nat) (E : List (Nat × Nat)) (t t' : Tr Value) (m m' : AM) (sn : Snaps) (rd : Seen) (σ : Ren) (a b : Act) (w : World),
      fuel + plan.length ≤ N → OkD ops plan D → BitsOf ops D L → evalDrawn P call n ops m0 plan L t m = some (t', m', sn, rd) → plan.length ≤ fuel + E.length → (E.map Prod.fst).Nodup → (∀ x ∈ E, x.1 ∈ freshOf plan) → (E.map Prod.snd).Nodup →
      Ext σ0 σ → WR R σ m w → RelT σ n t b → Agree (dsts ops E) a b → (∀ x ∈ E, Early P ops R σ (setAll D (E.map Prod.fst)) a w x) → (∀ s ∈ sn, sameSeen ops s.1 s.2.1 s.2.2 RD = true) → (∀ r ∈ rd, r ∈ RD) →
      Then R σ n t' m' (Q .normal) → wpAnyJ P ops Q (Leaves ops σ0 RD) fuel (setAll D (E.map Prod.fst)) a w := by
  intro N
  induction N with
  | zero =>
    intro fuel plan D L E t t' m m' sn rd σ a b w hN hok hbits hev hlen hE1 hE2 hE3 hx hw ht hag hea hsn hrd hthen
    have hf : fuel = 0 := by omega
    have hp : plan = [] := List.eq_nil_of_length_eq_zero (by omega)
    subst hf hp
    have hE : E = [] := by
      cases E with
      | nil => rfl
      | cons x E => exact absurd (hE2 x (by simp)) (by simp [freshOf])
    subst hE
    injection hev with h; injection h with h1 h2; injection h2 with h2 h3; subst h1 h2
    have hab : a = b := (show Agree (fun _ => False) a b from ⟨hag.defers, hag.size, fun i _ => hag.each i (by rintro ⟨x, hx, _⟩; cases hx)⟩).same
    subst hab
    exact ⟨hok, hthen σ a w (Ext.refl σ) hw ht⟩
  | succ N ih =>
    intro fuel plan D L E t t' m m' sn rd σ a b w hN hok hbits hev hlen hE1 hE2 hE3 hx hw ht hag hea hsn hrd hthen
    match plan with
    | [] =>
      have hE : E = [] := by
        cases E with
        | nil => rfl
        | cons x E => exact absurd (hE2 x (by simp)) (by simp [freshOf])
      subst hE
      injection hev with h; injection h with h1 h2; injection h2 with h2 h3; subst h1 h2
      have hab : a = b := (show Agree (fun _ => False) a b from ⟨hag.defers, hag.size, fun i _ => hag.each i (by rintro ⟨x, hx, _⟩; cases hx)⟩).same
      subst hab
      have hr : Region.ready .any ops (setAll D []) = [] := hok
      have hq := hthen σ a w (Ext.refl σ) hw ht
      cases fuel with
      | zero => exact ⟨hr, hq⟩
      | succ f => exact ⟨fun _ => hq, fun i hi => by rw [List.map_nil, hr] at hi; cases hi⟩
    | ⟨i, k, oi, wt⟩ :: rest =>
      have hokA := hok
      obtain ⟨⟨hoi, hwt, hri, hfr, hfree, hfresh, honly⟩, hokr⟩ := hok
      simp only at hoi hwt hri hfr hfree hfresh honly hokr
      have hlti : i < ops.size := (Array.getElem?_eq_some_iff.1 hoi).1
      have hbits' := hbits.set hlti
      have hDi : D.getD i true = false := (mem_ready.1 hri).1
      have hfo : ∀ x, x ∈ freshOf (⟨i, k, oi, wt⟩ :: rest) → x = i ∧ k = .fresh ∨ x ∈ freshOf rest := by
        intro x hx
        rw [freshOf_cons] at hx
        split at hx
        · rename_i hk
          rcases List.mem_cons.1 hx with h | h
          · exact .inl ⟨h, hk⟩
          · exact .inr h
        · exact .inr hx
      have hnotin : i ∉ freshOf rest := by
        intro hin
        obtain ⟨oq, hoq, hc1, _⟩ := hfr i hin
        rw [hoi] at hoq; injection hoq with hoq; subst hoq
        obtain ⟨q, hq, hqk, hqi⟩ := mem_freshOf.1 hin
        obtain ⟨g1, _, hf, _⟩ := OkD.fresh rest _ hokr q hq hqk
        rw [hqi, hoi] at g1; injection g1 with g1
        rw [← g1] at hf
        obtain ⟨_, d, hd⟩ := freshOp_spec hf
        exact (hc1 d hd).2 hd
      have hlook : ∀ (E' : List (Nat × Nat)), (∀ x ∈ E', x.1 ∈ freshOf rest) → ∀ d ∈ oi.looksAt ops, ¬ dsts ops E' d := by
        rintro E' hE' d hd ⟨x, hxE, o, ho, hod⟩
        obtain ⟨oq, hoq, hc1, _⟩ := hfr x.1 (hE' x hxE)
        rw [ho] at hoq; injection hoq with hoq; subst hoq
        exact (hc1 _ hod).1 hd
      by_cases hiE : i ∈ E.map Prod.fst
      · -- it was made before its turn
        obtain ⟨x, hxE, hxi⟩ := List.mem_map.1 hiE
        obtain ⟨hxi', hk⟩ : x.1 = i ∧ k = .fresh := by
          rcases hfo _ (hE2 x hxE) with h | h
          · exact h
          · rw [hxi] at h; exact absurd h hnotin
        subst hk
        obtain ⟨q, g⟩ := x
        simp only at hxi'
        subst hxi'
        obtain ⟨oq, d, ob, sh', he⟩ := hea _ hxE
        have hoq := he.op
        rw [hoi] at hoq; injection hoq with hoq; subst hoq
        obtain ⟨E1, E2, rfl⟩ := List.append_of_mem hxE
        unfold evalDrawn at hev
        simp only at hev
        split at hev
        · split at hev
          · rename_i obj sh hal
            split at hev
            · rename_i t1 hp
              have hnd : q ∉ (E1 ++ E2).map Prod.fst ∧ ((E1 ++ E2).map Prod.fst).Nodup := by
                simp only [List.map_append, List.map_cons] at hE1 ⊢
                exact List.nodup_cons.1 (List.perm_middle.nodup_iff.1 hE1)
              have hnd2 : g ∉ (E1 ++ E2).map Prod.snd ∧ ((E1 ++ E2).map Prod.snd).Nodup := by
                simp only [List.map_append, List.map_cons] at hE3 ⊢
                exact List.nodup_cons.1 (List.perm_middle.nodup_iff.1 hE3)
              have hsub : ∀ x ∈ E1 ++ E2, x ∈ E1 ++ (q, g) :: E2 := fun x hx => by
                rcases List.mem_append.1 hx with h | h
                · exact List.mem_append_left _ h
                · exact List.mem_append_right _ (List.mem_cons_of_mem _ h)
              have hE2' : ∀ x ∈ E1 ++ E2, x.1 ∈ freshOf rest := fun x hx => by
                rcases hfo _ (hE2 x (hsub x hx)) with ⟨h, _⟩ | h
                · exact absurd (by rw [← h]; exact List.mem_map_of_mem hx) hnd.1
                · exact h
              have hself := (hfresh rfl).2
              have hexec : execOp a.eval oi = execOp b.eval oi := by
                refine hag.exec (ops := ops) (fun cs b => hsel q oi cs b hoi) fun d' hd' hdd => ?_
                obtain ⟨x, hx, o, ho, hod⟩ := hdd
                rcases List.mem_append.1 hx with h | h
                · exact hlook (E1 ++ E2) hE2' d' hd' ⟨x, List.mem_append_left _ h, o, ho, hod⟩
                · rcases List.mem_cons.1 h with rfl | h
                  · simp only at ho
                    rw [hoi] at ho; injection ho with ho; subst ho
                    exact hself _ hod hd'
                  · exact hlook (E1 ++ E2) hE2' d' hd' ⟨x, List.mem_append_right _ h, o, ho, hod⟩
              obtain ⟨ob2, hrel, hcap, hrun2⟩ := absAlloc_sound hz ht.eval hal
              have hr1 := he.run w
              rw [hexec, hrun2 w] at hr1
              injection hr1 with hr1 hr2
              injection hr1 with hr1
              have hsh := shapeV_inj hr1
              subst hsh
              have hob : ob2 = ob := by
                have h1 := heap_push_new w ob2
                rw [hr2, heap_push_new w ob] at h1
                injection h1 with h1; exact h1.symm
              subst hob
              obtain ⟨σ1, e, hx1, hw1, hent, rfl, hsh0, hcov⟩ := hw.adopt g he.lies he.mine he.out hrel
              have hv := shape_rel hent hsh0 hcap
              have hdn : d < n := by
                rw [he.dst] at hp
                unfold aput at hp
                simp only at hp
                split at hp
                · assumption
                · cases hp
              have hb : b.tmps.size = n := ht.size
              have htmp := he.tmp (by rw [hag.size, hb]; exact hdn)
              have hlist : setAll D ((E1 ++ (q, e.blk) :: E2).map Prod.fst) = setAll (D.setIfInBounds q true) ((E1 ++ E2).map Prod.fst) := by
                simp only [List.map_append, List.map_cons]
                exact setAll_mid D q _ _
              rw [hlist]
              refine ih fuel rest (D.setIfInBounds q true) (Nat.lor L (bitOf q)) (E1 ++ E2) t1 t' (m.push obj) m' sn rd σ1 a (b.put oi.dst (shapeV sh e.blk)) w (by simp only [List.length_cons] at hN; omega) hokr hbits' hev (by simp only [List.length_cons, List.length_append] at hlen ⊢; omega) hnd.2 hE2' hnd2.2
                (hx.trans hx1) hw1 ((ht.ext hx1).put hp hv) ⟨by rw [he.dst]; exact hag.defers, by rw [he.dst]; simp [Act.put, hag.size], fun j hj => ?_⟩ (fun x hx' => ?_) hsn hrd (hthen.ext hx1)
              · rw [he.dst]
                by_cases hjd : d = j
                · subst hjd
                  rw [htmp]
                  simp [Act.put, hb, hdn]
                · simp only [Act.put, Array.getElem?_setIfInBounds_ne hjd]
                  refine hag.each j ?_
                  rintro ⟨x, hx', o, ho, hod⟩
                  rcases List.mem_append.1 hx' with h | h
                  · exact hj ⟨x, List.mem_append_left _ h, o, ho, hod⟩
                  · rcases List.mem_cons.1 h with rfl | h
                    · simp only at ho
                      rw [hoi] at ho; injection ho with ho; subst ho
                      rw [he.dst] at hod; injection hod with hod
                      exact hjd hod
                    · exact hj ⟨x, List.mem_append_right _ h, o, ho, hod⟩
              · rw [← hlist]
                obtain ⟨oq, d', ob', sh', h1⟩ := hea x (hsub x hx')
                refine ⟨oq, d', ob', sh', h1.op, h1.dst, h1.after, h1.run, h1.tmp, h1.lies, h1.mine, fun j e' hj hbk => ?_⟩
                rcases hcov j e' hj with h | h
                · exact hnd2.1 (by rw [← h, hbk]; exact List.mem_map_of_mem hx')
                · exact h1.out j e' h hbk
            · cases hev
          · cases hev
        · cases hev
      · have hE2' : ∀ x ∈ E, x.1 ∈ freshOf rest := fun x hx => by
          rcases hfo _ (hE2 x hx) with ⟨h, _⟩ | h
          · exact absurd (by rw [← h]; exact List.mem_map_of_mem hx) hiE
          · exact h
        have hEl : E.length ≤ rest.length := by
          have h1 := len_le_of_sub (E.map Prod.fst) (freshOf rest) hE1 (fun y hy => by obtain ⟨x, hx, rfl⟩ := List.mem_map.1 hy; exact hE2' x hx)
          have h2 := freshOf_len rest
          simp only [List.length_map] at h1
          omega
        obtain ⟨f, rfl⟩ : ∃ f, fuel = f + 1 := ⟨fuel - 1, by simp only [List.length_cons] at hlen; omega⟩
        have hun : (setAll D (E.map Prod.fst)).getD i true = false := by rw [setAll_not true _ _ hiE]; exact hDi
        have hready : i ∈ Region.ready .any ops (setAll D (E.map Prod.fst)) := ready_setAll (A := []) hri (fun _ h => by cases h) hiE
        have hexec : execOp a.eval oi = execOp b.eval oi := hag.exec (fun cs b => hsel i oi cs b hoi) (hlook E hE2')
        have hwant : Region.wanted oi (yielded ops a.tmps) = Region.wanted oi (yielded ops b.tmps) := hag.wanted (hlook E hE2')
        have next : ∀ (σ1 : Ren) (m1 : AM) (w1 : World) (t1 : Tr Value) (v v' : Value) (sn1 : Snaps) (rd1 : Seen), Ext σ σ1 → WR R σ1 m1 w1 → aput n t oi.dst v = some t1 → RelV σ1 v v' → evalDrawn P call n ops m0 rest (Nat.lor L (bitOf i)) t1 m1 = some (t', m', sn1, rd1) →
            (∀ s ∈ sn1, s ∈ sn) → (∀ r ∈ rd1, r ∈ rd) → (∀ x ∈ E, w1.heap[x.2]? = w.heap[x.2]? ∧ ∀ j e, σ1.ent j = some e → e.blk ≠ x.2) →
            wpAnyJ P ops Q (Leaves ops σ0 RD) f ((setAll D (E.map Prod.fst)).setIfInBounds i true) (a.put oi.dst v') w1 := by
          intro σ1 m1 w1 t1 v v' sn1 rd1 e1 e2 e3 e4 e5 e6 e7 e8
          rw [← setAll_set]
          refine ih f rest (D.setIfInBounds i true) (Nat.lor L (bitOf i)) E t1 t' m1 m' sn1 rd1 σ1 _ _ w1 (by simp only [List.length_cons] at hN; omega) hokr hbits' e5 (by simp only [List.length_cons] at hlen; omega) hE1 hE2' hE3 (hx.trans e1) e2 ((ht.ext e1).put e3 e4) (hag.put _ _) ?_ (fun s hs => hsn s (e6 s hs)) (fun r hr => hrd r (e7 r hr)) (hthen.ext e1)
          intro x hxE
          rw [setAll_set]
          refine (hea x hxE).keep hsel hun ?_ v' (e8 x hxE).1 (e8 x hxE).2
          intro oq hoq
          obtain ⟨o, ho, hc1, hc2⟩ := hfr x.1 (hE2' x hxE)
          rw [hoq] at ho; injection ho with ho; subst ho
          exact ⟨fun d hd => (hc1 d hd).2, fun d hd => hc2.imp (fun h => h d hd) id⟩
        have here : ∀ x ∈ E, w.heap[x.2]? = w.heap[x.2]? ∧ ∀ j e, σ.ent j = some e → e.blk ≠ x.2 := fun x hxE => ⟨rfl, by
          obtain ⟨oq, d, ob, sh, he⟩ := hea x hxE
          exact he.out⟩
        have early : ∀ r, r ∈ Region.ready .any ops (setAll D (E.map Prod.fst)) → r ∈ freshOf (⟨i, k, oi, wt⟩ :: rest) → (∀ o, ops[r]? = some o → ∃ obj sh, ∀ w : World, (execOp a.eval o).run P w = .ok (.value (shapeV sh w.heap.size)) (w.alloc obj)) →
            wpOp P ops Q r (fun a' w' => Leaves ops σ0 RD r w w' ∧ wpAnyJ P ops Q (Leaves ops σ0 RD) f ((setAll D (E.map Prod.fst)).setIfInBounds r true) a' w') a w := by
          intro r hr hrf hrun
          obtain ⟨hrun0, o', ho', hafter⟩ := mem_ready.1 hr
          obtain ⟨pq, hpq, hpk, hpi⟩ := mem_freshOf.1 hrf
          obtain ⟨ho, _, hfo', hself⟩ := OkD.fresh _ _ hokA pq hpq hpk
          rw [hpi] at ho
          generalize pq.o = o at ho hfo' hself
          rw [ho] at ho'; injection ho' with ho'; subst ho'
          obtain ⟨hg, d, hd⟩ := freshOp_spec hfo'
          obtain ⟨obj, sh, hrn⟩ := hrun o ho
          have hrE : r ∉ E.map Prod.fst := (setAll_un hrun0).1
          unfold wpOp
          simp only [ho, wanted_free hg, if_true]
          refine .inl (upon_value (hrn w) ⟨?_, ?_⟩)
          · intro s _ _ e he
            have hblk := (hw.ent _ _ (hx.ent _ _ he)).2.2.2
            exact ⟨fun q _ => by simp only [World.cell?, Below.heap_alloc w obj _ hblk], fun _ => Below.heap_alloc w obj _ hblk⟩
          · rw [← setAll_cons]
            refine ih f (⟨i, k, oi, wt⟩ :: rest) D L ((r, w.heap.size) :: E) t t' m m' sn rd σ _ b _ (by simp only [List.length_cons] at hN ⊢; omega) hokA hbits hev (by simp only [List.length_cons] at hlen ⊢; omega) (List.nodup_cons.2 ⟨hrE, hE1⟩) ?_ ?_ hx (hw.unknown obj) ht ?_ ?_ hsn hrd hthen
            · intro x hx'
              rcases List.mem_cons.1 hx' with rfl | hx'
              · exact hrf
              · exact hE2 x hx'
            · refine List.nodup_cons.2 ⟨fun hm => ?_, hE3⟩
              obtain ⟨x, hxE, hxs⟩ := List.mem_map.1 hm
              obtain ⟨oq, d', ob, sh', he⟩ := hea x hxE
              have := he.lies
              rw [hxs, Array.getElem?_eq_none (Nat.le_refl _)] at this
              cases this
            · refine ⟨by rw [hd]; exact hag.defers, by rw [hd]; simp [Act.put, hag.size], fun j hj => ?_⟩
              have hjd : d ≠ j := fun e => hj ⟨(r, w.heap.size), by simp, o, ho, by rw [hd, e]⟩
              rw [hd]
              simp only [Act.put, Array.getElem?_setIfInBounds_ne hjd]
              exact hag.each j (fun ⟨x, hxE, h⟩ => hj ⟨x, List.mem_cons_of_mem _ hxE, h⟩)
            · intro x hxE
              rcases List.mem_cons.1 hxE with rfl | hxE
              · refine ⟨o, d, obj, sh, ho, hd, fun e he hb => ?_, fun w1 => ?_, fun hlt => ?_, heap_push_new w obj, .inr hw.below.size, fun j e he hbk => ?_⟩
                · rw [List.map_cons, setAll_cons]; exact getD_set_true (hafter e he hb)
                · rw [execOp_put (ops := ops) o (fun cs b => hsel r o cs b ho) a _ _ fun d' hd' => hself d' hd']; exact hrn w1
                · rw [hd] at hlt ⊢
                  simp only [Act.put, Array.size_setIfInBounds] at hlt
                  simp [Act.put, hlt]
                · have := (hw.ent _ _ he).2.2.2
                  simp only at hbk
                  omega
              · rw [List.map_cons, setAll_cons]
                have hlies : x.2 < w.heap.size := by
                  obtain ⟨oq, d', ob, sh', he⟩ := hea x hxE
                  exact (Array.getElem?_eq_some_iff.1 he.lies).1
                refine (hea x hxE).keep hsel hrun0 ?_ _ (Below.heap_alloc w obj _ hlies) (here x hxE).2
                intro oq hoq
                have hne : x.1 ≠ r := fun e => hrE (by rw [← e]; exact List.mem_map_of_mem hxE)
                obtain ⟨h1, h2⟩ := OkD.pair _ _ hokA x.1 (hE2 x hxE) r hrf hne oq o hoq ho
                exact ⟨h2, h1⟩
        have earlier : earlyOk P t (Nat.lor L (freshBits rest)) (freshBits rest) rest = true → ∀ r, r ∈ Region.ready .any ops (setAll D (E.map Prod.fst)) → r ∈ freshOf rest →
            ∀ o, ops[r]? = some o → ∃ obj sh, ∀ w : World, (execOp a.eval o).run P w = .ok (.value (shapeV sh w.heap.size)) (w.alloc obj) := by
          intro hearly r hr hrf o ho
          obtain ⟨pq, hpq, hpk, hpi⟩ := mem_freshOf.1 hrf
          obtain ⟨ho2, hw2, _, hself⟩ := OkD.fresh _ _ hokr pq hpq hpk
          rw [hpi, ho] at ho2; injection ho2 with ho2
          rw [← ho2] at hw2 hself
          have h1 := earlyOk_spec rest hearly pq hpq hpk
          rw [← ho2] at h1
          rcases h1 with h1 | h1 | h1
          · obtain ⟨_, o', ho', hall⟩ := mem_ready.1 hr
            rw [ho] at ho'; injection ho' with ho'; subst ho'
            rw [subB_of ?_] at h1
            · cases h1
            · intro bb hbw
              rw [hw2] at hbw
              obtain ⟨e, he, hb, rfl⟩ := waits_bit.1 hbw
              have h2 := hall e he hb
              rw [bit_lor, Bool.or_eq_true, fresh_bit, hbits.bit]
              by_cases hm : e.on ∈ freshOf rest
              · exact .inr hm
              · have hm' : e.on ∉ E.map Prod.fst := fun hh => hm (by obtain ⟨x, hx, hxe⟩ := List.mem_map.1 hh; rw [← hxe]; exact hE2' x hx)
                rw [setAll_not false _ _ hm'] at h2
                exact .inl h2
          · exact sureAlloc_run h1 _
          · have hex : execOp a.eval o = execOp b.eval o := by
              refine hag.exec (ops := ops) (fun cs b => hsel r o cs b ho) fun d hd hdd => ?_
              obtain ⟨x, hxE, ox, hox, hod⟩ := hdd
              by_cases hxr : x.1 = r
              · rw [hxr, ho] at hox; injection hox with hox; subst hox
                exact hself d hod hd
              · rcases (OkD.pair _ _ hokr r hrf x.1 (hE2' x hxE) (fun e => hxr e.symm) o ox ho hox).1 d hod with h | h
                · exact h hd
                · have := apartB_spec h1.1 x.1 (by rw [hw2]; exact waits_bit.2 h)
                  rw [fresh_bit.2 (hE2' x hxE)] at this; cases this
            obtain ⟨⟨obj, sh⟩, hal⟩ := Option.isSome_iff_exists.1 h1.2
            obtain ⟨ob2, _, _, hrun2⟩ := absAlloc_sound hz ht.eval hal
            exact ⟨ob2, sh, fun w => by rw [hex]; exact hrun2 w⟩
        have ends : ∀ r, r ∈ Region.ready .any ops (setAll D (E.map Prod.fst)) → k ≠ .free → r ∈ freshOf rest ∨ r = i := by
          intro r hr hk
          by_cases hm : r ∈ freshOf rest
          · exact .inl hm
          · exact .inr (honly hk r (ready_setAll hr (fun x hx => by obtain ⟨y, hy, rfl⟩ := List.mem_map.1 hx; exact hE2' y hy) hm))
        have hTleaves : ∀ {σ1 : Ren} {m1 : AM} {w1 : World}, Ext σ σ1 → WR (Ref.now σ w) σ1 m1 w1 → sameSeen ops i m m1 RD = true → Leaves ops σ0 RD i w w1 := fun e1 e2 e3 => leaves_of_same hx hw e1 e2 RD e3
        have hkept : ∀ {σ1 : Ren} {m1 : AM} {w1 : World}, WR (Ref.now σ w) σ1 m1 w1 → ∀ x ∈ E, w1.heap[x.2]? = w.heap[x.2]? ∧ ∀ j e, σ1.ent j = some e → e.blk ≠ x.2 := by
          intro σ1 m1 w1 h1 x hxE
          obtain ⟨oq, d', ob, sh', he⟩ := hea x hxE
          exact h1.kept (Array.getElem?_eq_some_iff.1 he.lies).1 he.out
        unfold evalDrawn at hev
        simp only at hev
        cases k with
        | fresh =>
          simp only at hev
          split at hev
          · rename_i hearly
            split at hev
            · rename_i obj sh hal
              obtain ⟨ob2, _, _, hrun2⟩ := absAlloc_sound hz ht.eval hal
              refine ⟨fun h => (by rw [h] at hready; cases hready), fun r hr => ?_⟩
              rcases ends r hr (by simp) with hm | rfl
              · exact early r hr (by rw [freshOf_cons]; exact List.mem_cons_of_mem _ hm) (earlier hearly r hr hm)
              · refine early r hr (by rw [freshOf_cons]; exact List.mem_cons_self ..) fun o ho => ?_
                rw [hoi] at ho; injection ho with ho; subst ho
                exact ⟨ob2, sh, fun w => by rw [hexec]; exact hrun2 w⟩
            · cases hev
          · cases hev
        | strict =>
          simp only at hev
          split at hev
          · rename_i hearly
            refine ⟨fun h => (by rw [h] at hready; cases hready), fun r hr => ?_⟩
            rcases ends r hr (by simp) with hm | rfl
            · exact early r hr hm (earlier hearly r hr hm)
            · unfold wpOp
              simp only [hoi]
              split at hev
              · cases hev
              · rename_i hy
                rw [hwant, ht.yields hy]
                simp only [Bool.false_eq_true, if_false]
                split at hev
                · rename_i t1 hp
                  exact ⟨Leaves.refl, next σ m w t1 undef undef sn rd (Ext.refl σ) hw hp undef_rel hev (fun _ h => h) (fun _ h => h) here⟩
                · cases hev
              · rename_i hy
                rw [hwant, ht.yields hy]
                simp only [if_true]
                left
                split at hev
                · cases hev
                · rename_i v m1 hs
                  obtain ⟨σ1, n1, w1, e1, e2, e3, e4, _⟩ := step_sound hz hc ht.eval oi _ _ hs hw.now
                  rw [← hexec] at e2
                  cases e4 with
                  | value hv =>
                    split at hev
                    · rename_i t1 hp
                      split at hev
                      · rename_i q2 p2 sn2 rd2 hr2
                        injection hev with h; injection h with g1 g2; injection g2 with g2 g3; injection g3 with g3 g4; subst g1 g2 g3 g4
                        exact upon_value e2 ⟨hTleaves e1 e3 (hsn (r, m, m1) (by simp)), next σ1 m1 w1 t1 v _ sn2 rd2 e1 (hw.back e3) hp hv hr2 (fun s h => by simp [h]) (fun _ h => h) (hkept e3)⟩
                      · cases hev
                    · cases hev
                · rename_i m1 hs
                  obtain ⟨σ1, n1, w1, e1, e2, e3, e4, _⟩ := step_sound hz hc ht.eval oi _ _ hs hw.now
                  rw [← hexec] at e2
                  cases e4 with
                  | skip =>
                    split at hev
                    · rename_i t1 hp
                      split at hev
                      · rename_i q2 p2 sn2 rd2 hr2
                        injection hev with h; injection h with g1 g2; injection g2 with g2 g3; injection g3 with g3 g4; subst g1 g2 g3 g4
                        exact upon_skip e2 ⟨hTleaves e1 e3 (hsn (r, m, m1) (by simp)), next σ1 m1 w1 t1 undef _ sn2 rd2 e1 (hw.back e3) hp undef_rel hr2 (fun s h => by simp [h]) (fun _ h => h) (hkept e3)⟩
                      · cases hev
                    · cases hev
                · rename_i fn args m1 hs
                  obtain ⟨σ1, n1, w1, e1, e2, e3, e4, _⟩ := step_sound hz hc ht.eval oi _ _ hs hw.now
                  rw [← hexec] at e2
                  cases e4 with
                  | enter _ hargs =>
                    split at hev
                    · rename_i v m2 hcl
                      split at hev
                      · rename_i t1 hp
                        split at hev
                        · rename_i q2 p2 sn2 rd2 hr2
                          injection hev with h; injection h with g1 g2; injection g2 with g2 g3; injection g3 with g3 g4; subst g1 g2 g3 g4
                          refine upon_enter e2 ((hcall _ _ _ _ _ hcl _ σ1 w1 _ ((hx.trans e1).stand hT) e3 hargs).mono fun e w2 hh => ?_)
                          obtain ⟨σ2, v', rfl, k1, k2, k3⟩ := hh
                          exact ⟨v', rfl, hTleaves (e1.trans k1) k2 (hsn (r, m, m2) (by simp)), next σ2 m2 w2 t1 v v' sn2 rd2 (e1.trans k1) (hw.back k2) hp k3 hr2 (fun s h => by simp [h]) (fun _ h => h) (hkept k2)⟩
                        · cases hev
                      · cases hev
                    · cases hev
          · cases hev
        | free =>
          have first : ∀ (v' : Value) (Y : World → Prop), (∀ j w w', unrelated ops i j = true → Leaves ops σ0 RD j w w' → Y w → Y w') → YieldsIf P ops Y oi v' a → Y w →
              wpAnyJ P ops Q (Leaves ops σ0 RD) f ((setAll D (E.map Prod.fst)).setIfInBounds i true) (a.put oi.dst v') w → wpAnyJ P ops Q (Leaves ops σ0 RD) (f + 1) (setAll D (E.map Prod.fst)) a w := by
            intro v' Y hY hyl hYw hh
            refine wpAnyJ_first hoi hsel (fun c a w h => absurd h (hQ c _ w)) hY (fun w => Leaves.refl) f _ a w ?_ hready hyl hYw hh
            intro j oj hoj hne hunj hno
            exact hfree rfl j oj hoj hne (setAll_un hunj).2 hno
          simp only at hev
          split at hev
          · cases hev
          · rename_i hy
            split at hev
            · rename_i t1 hp
              exact first undef (fun _ => True) (fun _ _ _ _ _ _ => trivial) (.inr ⟨by rw [hwant, ht.yields hy], rfl⟩) trivial (next σ m w t1 undef undef sn rd (Ext.refl σ) hw hp undef_rel hev (fun _ h => h) (fun _ h => h) here)
            · cases hev
          · rename_i hy
            have hs0 : σ.ent somewhere = none := by
              cases he : σ.ent somewhere with
              | none => rfl
              | some e => exact absurd (hw.ent _ _ he).1 (by unfold somewhere; omega)
            split at hev
            · rename_i v hv
              obtain ⟨v', g1, g2⟩ := static_sound (P := P) hs0 ht.eval oi hv
              split at hev
              · rename_i t1 hp
                exact first v' (fun _ => True) (fun _ _ _ _ _ _ => trivial) (.inl ⟨by rw [hwant, ht.yields hy], fun w _ => by rw [hexec]; exact g1 w⟩) trivial (next σ m w t1 v v' sn rd (Ext.refl σ) hw hp g2 hev (fun _ h => h) (fun _ h => h) here)
              · cases hev
            · split at hev
              · rename_i v r hl
                obtain ⟨v', bk, off, ln, e, Y, rfl, q1, q2, q3, q5', q4⟩ := loadFirst_sound hx h0 hw ht hl
                split at hev
                · rename_i t1 hp
                  split at hev
                  · rename_i q5 p2 sn2 rd2 hr2
                    injection hev with h; injection h with g1 g2; injection g2 with g2 g3; injection g3 with g3 g4; subst g1 g2 g3 g4
                    refine first v' Y (fun j w w' hu hl hyw => ?_) (.inl ⟨by rw [hwant, ht.yields hy], fun w1 hw1 => by rw [hexec]; exact q4 w1 hw1⟩) q3 ?_
                    · obtain ⟨z1, z2⟩ := hl (i, bk, off, ln) (hrd _ (by simp)) hu e q1
                      exact q5' w w' z1 z2 hyw
                    · exact next σ m w t1 v v' sn2 rd2 (Ext.refl σ) hw hp q2 hr2 (fun _ h => h) (fun s h => by simp [h]) here
                  · cases hev
                · cases hev
              · cases hev
end
end Go.Proofs.Ytfghccppoilfhaa
