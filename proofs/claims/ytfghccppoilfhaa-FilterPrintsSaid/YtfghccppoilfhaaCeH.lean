/-
  The same, part 8: a step says what the model's operation does. No condition but that the types' zero values bear no address, and that functions are entered.
-/
import Derived.Test.YtfghccppoilfhaaCeG
namespace Go.Proofs.Ytfghccppoilfhaa
open Go.RowKit

section
variable {P : Program} {W : Ref} {σ : Ren} {m : AM} {w : World}

theorem parts_arr (ps : Array (Nat × Operand)) (ρ : Operand → Value) : (ps.toList.map fun x => (x.1, ρ x.2)).toArray = ps.map fun x => (x.1, ρ x.2) := by
  apply Array.ext'
  simp

theorem args_arr (ps : Array Operand) (ρ : Operand → Value) : (ps.toList.map ρ).toArray = ps.map ρ := by
  apply Array.ext'
  simp

theorem call_enter (hc : callsOk P = true) {g : FuncId} {fn : Func} (hg : P.funcs[g]? = some fn) (hb : fn.body.isSome = true) (args : Array Value) (w : World) : (callFunc g args).run P w = .ok (.enter g args) w := by
  have hn : (fn.name == "runtime.NumGoroutine") = false := by
    have h1 := List.all_eq_true.1 hc fn (by
      rw [Array.getElem?_eq_some_iff] at hg
      obtain ⟨hl, rfl⟩ := hg
      simp)
    have h2 : fn.body.isNone = false := by cases hf : fn.body <;> simp_all
    rw [h2, Bool.false_or] at h1
    simpa [bne] using h1
  have h2 : fn.body.isNone = false := by cases hf : fn.body <;> simp_all
  unfold callFunc
  simp only [program, Sem.run_bind, Sem.run, Result.andThen_ok, hg, hn, h2, Bool.false_eq_true, if_false]
  rfl

theorem builtin_call (ρ : Operand → Value) (b : Builtin) (args : Array Operand) (ats : Array TypeId) (ty : TypeId) :
    (do let d ← resolve ρ { callee := .builtin b, args := args, argTypes := ats } ty; invoke d.target d.args : Sem Next) = builtin b ats ty (args.map fun | .const _ => true | _ => false) (args.map ρ) := rfl
theorem map_two (ρ : Operand → Value) (x y : Operand) : (⟨[x, y]⟩ : Array Operand).map ρ = #[ρ x, ρ y] := by simp
theorem map_one (ρ : Operand → Value) (x : Operand) : (⟨[x]⟩ : Array Operand).map ρ = #[ρ x] := by simp

theorem pureO_eq {o o' : Option Value} (h : RelOV σ o o') (hp : pureO o = true) : o' = o := by
  cases o <;> cases o' <;> simp only [RelOV] at h
  · rfl
  · exact congrArg some (pure_eq 8 _ _ hp h)

theorem absCall_sound (hz : zerosOk P = true) (hc : callsOk P = true) {ρ ρ' : Operand → Value} (hE : RelE σ ρ ρ') (c : Call) (ty : TypeId) : Says P W σ m w (absCall P ρ c m) (do let d ← resolve ρ' c ty; invoke d.target d.args) := by
  unfold absCall
  split
  · rename_i hok
    have hargs := okAll_rel hE _ hok
    obtain ⟨callee, args, ats⟩ := c
    simp only at hok hargs ⊢
    split
    · -- append
      split
      · rename_i s x t tx
        simp only [List.map_cons, List.map_nil] at hargs
        obtain ⟨h1, h2⟩ := hargs.cons_inv
        have h2 := h2.cons_inv.1
        have := says_lift (P := P) (W := W) (σ := σ) (m := m) (w := w) (r := absAppendAny P t tx (ρ s) (ρ x) m) (t := Builtin.append_ #[t, tx] ty #[ρ' s, ρ' x]) (fun hw v m' hr => absAppendAny_sound hz hw h1 h2 hr)
        rw [builtin_call, map_two]
        exact this
      · exact says_none
    · -- copy
      split
      · rename_i s x t tx
        simp only [List.map_cons, List.map_nil] at hargs
        obtain ⟨h1, h2⟩ := hargs.cons_inv
        have h2 := h2.cons_inv.1
        have := says_lift (P := P) (W := W) (σ := σ) (m := m) (w := w) (r := absCopy P t (ρ s) (ρ x) m) (t := Builtin.copy_ #[t, tx] ty #[ρ' s, ρ' x]) (fun hw v m' hr => absCopy_sound hw h1 h2 hr)
        rw [builtin_call, map_two]
        exact this
      · exact says_none
    · -- len
      split
      · rename_i x t
        simp only [List.map_cons, List.map_nil] at hargs
        have h1 := hargs.cons_inv.1
        have := says_stay (P := P) (W := W) (σ := σ) (m := m) (w := w) (r := absLen P t (ρ x) m) (t := Builtin.len_ #[t] ty #[ρ' x]) (fun hw v hr => absLen_sound hw rfl h1 hr)
        rw [builtin_call, map_one]
        exact this
      · exact says_none
    · -- delete
      split
      · rename_i x k t tk
        simp only [List.map_cons, List.map_nil] at hargs
        obtain ⟨h1, h2⟩ := hargs.cons_inv
        have h2 := h2.cons_inv.1
        split
        · rename_i m' hd
          intro n m2 hr hw
          injection hr with hr; injection hr with e1 e2; subst e1 e2
          obtain ⟨w', g1, g2, g3⟩ := absDelete_sound (tk := tk) (ty := ty) hw h1 h2 hd
          rw [builtin_call, map_two]
          refine ⟨σ, .value (.tuple #[]), w', Ext.refl σ, ?_, g2, .value (.tuple rfl fun i v v' h _ => by simp at h), g3⟩
          show Sem.run P (do pure (Next.value (← Builtin.delete_ #[t, tk] ty #[ρ' x, ρ' k]))) w = _
          simp [g1]
        · exact says_none
      · exact says_none
    · -- a function
      rename_i f
      split
      · rename_i hf
        split
        · rename_i g first captured hg
          split
          · rename_i fn hfn
            split
            · rename_i hb
              intro n m' hr hw
              injection hr with hr; injection hr with h1 h2; subst h1 h2
              have hv := hE f hf
              rw [hg] at hv
              generalize hq : ρ' f = q at hv
              cases hv with
              | func _ hs1 hs2 he1 he2 =>
                rename_i f' c'
                refine ⟨σ, .enter g (f' ++ args.map ρ' ++ c'), w, Ext.refl σ, ?_, hw, ?_, Quiet.refl⟩
                · simp only [resolve, Deferred.ofValue, hq, Sem.run_pure, Sem.run_bind, Result.andThen_ok, invoke]
                  exact call_enter hc hfn hb _ w
                · have e1 : f' ++ args.map ρ' ++ c' = (f'.toList ++ args.toList.map ρ' ++ c'.toList).toArray := by apply Array.ext'; simp
                  rw [e1]
                  exact .enter g (RelL.toVs (((RelVs.toL ⟨hs1, he1⟩).append hargs).append (RelVs.toL ⟨hs2, he2⟩)))
            · exact says_none
          · exact says_none
        · exact says_none
      · exact says_none
    · exact says_none
  · exact says_none

def Stat (P : Program) (σ : Ren) (v : Value) (s : Sem Next) : Prop := ∃ v', (∀ w : World, s.run P w = .ok (.value v') w) ∧ RelV σ v v'

theorem stat_of {v : Value} {t : Sem Value} (h : ∃ v', (∀ w : World, t.run P w = .ok v' w) ∧ RelV σ v v') : Stat P σ v (do pure (.value (← t))) := by
  obtain ⟨v', e1, e2⟩ := h
  exact ⟨v', fun w => by simp [e1 w], e2⟩

theorem static_sound (hs0 : σ.ent somewhere = none) {ρ ρ' : Operand → Value} (hE : RelE σ ρ ρ') (o : Oper) {v : Value} (h : absStatic P ρ o = some v) : Stat P σ v (execOp ρ' o) := by
  obtain ⟨dst, op, ty, pos, after, guard⟩ := o
  unfold absStatic at h
  unfold execOp
  cases op with
  | move x =>
    simp only at h ⊢
    split at h
    · rename_i hx; injection h with h; subst h; exact ⟨_, fun _ => rfl, hE x hx⟩
    · cases h
  | assign x =>
    simp only at h ⊢
    split at h
    · rename_i hx; injection h with h; subst h; exact ⟨_, fun _ => rfl, hE x hx⟩
    · cases h
  | pick c a b =>
    simp only at h ⊢
    split at h
    · rename_i hx
      split at h
      · rename_i β hβ
        injection h with h; subst h
        have hcb := hE c hx.1
        rw [hβ] at hcb
        generalize hq : ρ' c = q at hcb
        cases hcb
        refine ⟨if β = true then ρ' a else ρ' b, fun w => by simp [asBool], ?_⟩
        cases β
        · exact hE b hx.2.2
        · exact hE a hx.2.1
      · cases h
    · cases h
  | build t ps =>
    simp only at h ⊢
    split at h
    · rename_i hx
      refine stat_of ?_
      have hp := okParts_rel hE _ hx
      have e : ps.toList.map (fun x => (x.1, ρ x.2)) = (ps.map fun x => (x.1, ρ x.2)).toList := by simp
      rw [e] at h
      exact absBuild_sound (by simpa using hp) h
    · cases h
  | nilCheck x =>
    simp only at h ⊢
    split at h
    · rename_i hx
      have hr := hE x hx
      split at h
      · rename_i a ha
        injection h with h; subst h
        rw [ha] at hr
        obtain ⟨a', e, hr⟩ := hr.addr
        rw [e]
        exact ⟨_, fun _ => rfl, hr.ptr⟩
      · rename_i f a b hf
        injection h with h; subst h
        rw [hf] at hr
        generalize hq : ρ' x = q at hr
        cases hr with
        | func _ h1 h2 h3 h4 => exact ⟨_, fun _ => rfl, .func _ h1 h2 h3 h4⟩
      · cases h
    · cases h
  | binOp op t x y yt =>
    simp only at h ⊢
    split at h
    · rename_i hx
      exact stat_of (absBin_sound (hE x hx.1) (hE y hx.2) h)
    · cases h
  | unOp op t x =>
    simp only at h ⊢
    split at h
    · rename_i hx
      rw [pure_eq 8 _ _ hx.2 (hE x hx.1)]
      exact stat_of ⟨v, bothPure_run h⟩
    · cases h
  | convert src dst x =>
    simp only at h ⊢
    split at h
    · rename_i hx
      rw [pure_eq 8 _ _ hx.2 (hE x hx.1)]
      exact stat_of ⟨v, bothPure_run h⟩
    · cases h
  | makeFunc fn first captured =>
    simp only at h ⊢
    split at h
    · rename_i hx
      injection h with h; subst h
      have h1 := (okAll_rel hE _ hx.1).toVs
      have h2 := (okAll_rel hE _ hx.2).toVs
      rw [args_arr, args_arr] at h1 h2 ⊢
      exact ⟨_, fun _ => rfl, .func fn h1.size h2.size h1.each h2.each⟩
    · cases h
  | slice t x lo hi mx =>
    simp only at h ⊢
    split at h
    · rename_i hx
      obtain ⟨h1, h2, h3, h4⟩ := hx
      have r2 := okOpt_rel hE _ h2
      have r3 := okOpt_rel hE _ h3
      have r4 := okOpt_rel hE _ h4
      split at h
      · rename_i hp
        rw [pure_eq 8 _ _ hp.2.1 (hE x h1), pureO_eq r2 hp.2.2.1, pureO_eq r3 hp.2.2.2.1, pureO_eq r4 hp.2.2.2.2]
        exact stat_of ⟨v, bothPure_run h⟩
      · exact stat_of (absSlice_sound hs0 (hE x h1) r2 r3 r4 h)
    · cases h
  | fieldAddr s x f =>
    simp only at h ⊢
    split at h
    · rename_i hx
      exact stat_of (absFieldAddr_sound (hE x hx) h)
    · cases h
  | field t x f =>
    simp only at h ⊢
    split at h
    · rename_i hx
      exact stat_of (absField_sound (hE x hx) h)
    · cases h
  | indexAddr t x i =>
    simp only at h ⊢
    split at h
    · rename_i hx
      exact stat_of (absIndexAddr_sound (hE x hx.1) (hE i hx.2) h)
    · cases h
  | index t x i =>
    simp only at h ⊢
    split at h
    · rename_i hx
      split at h
      · rename_i hp
        rw [pure_eq 8 _ _ hp.1 (hE x hx.1), pure_eq 8 _ _ hp.2 (hE i hx.2)]
        exact stat_of ⟨v, bothPure_run h⟩
      · exact stat_of (absIndex_sound (hE x hx.1) (hE i hx.2) h)
    · cases h
  | extract t i =>
    simp only at h ⊢
    split at h
    · rename_i hx
      exact stat_of (absExtract_sound (hE t hx) h)
    · cases h
  | makeInterface t x =>
    simp only at h ⊢
    split at h
    · rename_i hx
      exact stat_of (absMakeIface_sound (hE x hx) h)
    · cases h
  | typeAssert x xt t ok =>
    simp only at h ⊢
    split at h
    · rename_i hx
      exact stat_of (absAssert_sound (hE x hx) h)
    · cases h
  | call c =>
    obtain ⟨callee, args, ats⟩ := c
    simp only [absStaticCall] at h ⊢
    split at h
    · rename_i x y
      split at h
      · rename_i hx
        rw [builtin_call, map_two, pure_eq 8 _ _ hx.2.2.1 (hE x hx.1), pure_eq 8 _ _ hx.2.2.2 (hE y hx.2.1)]
        exact stat_of ⟨v, bothPure_run h⟩
      · cases h
    · rename_i x y
      split at h
      · rename_i hx
        rw [builtin_call, map_two, pure_eq 8 _ _ hx.2.2.1 (hE x hx.1), pure_eq 8 _ _ hx.2.2.2 (hE y hx.2.1)]
        exact stat_of ⟨v, bothPure_run h⟩
      · cases h
    · rename_i x t
      split at h
      · rename_i hx
        rw [builtin_call, map_one]
        exact stat_of (absLen0_sound rfl (hE x hx) h)
      · cases h
    · rename_i x t
      split at h
      · rename_i hx
        rw [builtin_call, map_one]
        exact stat_of (absCap0_sound rfl (hE x hx) h)
      · cases h
    · cases h
  | _ => cases h

theorem says_upd {r : Option AM} {t : Sem Unit} (h : WR W σ m w → ∀ m', r = some m' → ∃ w', t.run P w = .ok () w' ∧ WR W σ m' w' ∧ m.tick < m'.tick) : Says P W σ m w (liftM r) (do t; pure .skip) := by
  intro n m' hr hw
  cases r with
  | none => cases hr
  | some m1 =>
    injection hr with hr; injection hr with h1 h2; subst h1 h2
    obtain ⟨w', e2, e3, e4⟩ := h hw m1 rfl
    exact ⟨σ, .skip, w', Ext.refl σ, by simp [e2], e3, .skip, Quiet.of_lt e4⟩

theorem loud_sound (hz : zerosOk P = true) (hc : callsOk P = true) {ρ ρ' : Operand → Value} (hE : RelE σ ρ ρ') (o : Oper) : Says P W σ m w (absLoud P ρ o m) (execOp ρ' o) := by
  obtain ⟨dst, op, ty, pos, after, guard⟩ := o
  unfold absLoud execOp
  cases op with
  | alloc t =>
    simp only
    split
    · rename_i h; exact says_sim (Sim.alloc hz h)
    · exact says_none
  | box t x =>
    simp only
    split
    · rename_i h; exact says_sim (Sim.box (hE x h) t)
    · exact says_none
  | buildSlice t n ps =>
    simp only
    split
    · rename_i h
      rw [parts_arr]
      refine says_lift fun hw v m' hr => absBuildSlice_sound hz hw ?_ hr
      have := okParts_rel hE _ h
      simpa using this
    · exact says_none
  | load t a =>
    simp only
    split
    · rename_i h; exact says_sim (Sim.loadAt (hE a h) t)
    · exact says_none
  | store t a x =>
    simp only
    split
    · rename_i h; exact says_simU (Sim.storeAt (hE a h.1) (hE x h.2) t)
    · exact says_none
  | convert src dst x =>
    simp only
    split
    · rename_i h
      exact says_stay fun hw v hr => absConvert_sound hw (hE x h) hr
    · exact says_none
  | makeSlice t l c =>
    simp only
    split
    · rename_i h
      exact says_lift fun hw v m' hr => absMake_sound hz hw (hE l h.1) (hE c h.2) hr
    · exact says_none
  | makeMap t r =>
    simp only
    split
    · rename_i h
      exact says_lift fun hw v m' hr => absMakeMap_sound hw (okOpt_rel hE _ h) hr
    · exact says_none
  | lookup t x k ok =>
    simp only
    split
    · rename_i h
      exact says_stay fun hw v hr => absLookup_sound hw (hE x h.1) (hE k h.2) hr
    · exact says_none
  | mapUpdate t x k v =>
    simp only
    split
    · rename_i h
      exact says_upd fun hw m' hr => absUpdate_sound hw (hE x h.1) (hE k h.2.1) (hE v h.2.2) hr
    · exact says_none
  | insert t x k v =>
    simp only
    split
    · rename_i h
      exact says_upd fun hw m' hr => absUpdate_sound hw (hE x h.1) (hE k h.2.1) (hE v h.2.2) hr
    · exact says_none
  | range t x =>
    simp only
    split
    · rename_i h
      exact says_lift fun hw v m' hr => absRange_sound hw (hE x h) hr
    · exact says_none
  | next x s =>
    simp only
    split
    · rename_i h
      refine says_lift fun hw v m' hr => ?_
      obtain ⟨v', w', g1, g2, g3, g4⟩ := absNext_sound (ty := ty) hw (hE x h) hr
      exact ⟨σ, v', w', Ext.refl σ, g1, g2, g3, g4⟩
    · exact says_none
  | call c => exact absCall_sound hz hc hE c ty
  | _ => exact says_none

theorem step_sound (hz : zerosOk P = true) (hc : callsOk P = true) {ρ ρ' : Operand → Value} (hE : RelE σ ρ ρ') (o : Oper) : Says P W σ m w (stepOp P ρ o m) (execOp ρ' o) := by
  unfold stepOp
  split
  · rename_i v hv
    intro n m' hr hw
    injection hr with hr; injection hr with h1 h2; subst h1 h2
    have h0 : σ.ent somewhere = none := by
      cases he : σ.ent somewhere with
      | none => rfl
      | some e => exact absurd (hw.ent _ _ he).1 (by unfold somewhere; omega)
    obtain ⟨v', e1, e2⟩ := static_sound h0 hE o hv
    exact ⟨σ, .value v', w, Ext.refl σ, e1 w, hw, .value e2, Quiet.refl⟩
  · exact loud_sound hz hc hE o
end
end Go.Proofs.Ytfghccppoilfhaa
