/-
  The same, part 7: one operation. No condition but that the types' zero values bear no address.
-/
import Derived.Test.YtfghccppoilfhaaCeM
namespace Go.Proofs.Ytfghccppoilfhaa
open Go.RowKit

inductive ANext where
  | value (v : Value)
  | skip
  | enter (f : FuncId) (args : Array Value)

def okx : Operand → Bool
  | .const v => pureD 8 v
  | .global _ => false
  | .func _ => true
  | .tmp _ => true

def okAll : List Operand → Bool
  | [] => true
  | x :: r => okx x && okAll r
def okParts : List (Nat × Operand) → Bool
  | [] => true
  | x :: r => okx x.2 && okParts r
def okOpt : Option Operand → Bool
  | none => true
  | some x => okx x

def liftV : Option (Value × AM) → Option (ANext × AM)
  | some (v, m) => some (.value v, m)
  | none => none
def liftU : Option (Unit × AM) → Option (ANext × AM)
  | some (_, m) => some (.skip, m)
  | none => none
def liftM : Option AM → Option (ANext × AM)
  | some m => some (.skip, m)
  | none => none
def stay (m : AM) : Option Value → Option (ANext × AM)
  | some v => some (.value v, m)
  | none => none

def bothPure (P : Program) (s : Sem Value) : Option Value :=
  match peel P s with
  | some v => if pureD 8 v = true then some v else none
  | none => none

def absLen0 (P : Program) (t : TypeId) (x : Value) : Option Value :=
  match P.underlying t, x with
  | some .string, .string s => some (goInt s.size)
  | some (.array n _), _ => some (goInt n)
  | some (.slice _), .slice _ n _ => some (goInt n)
  | some (.map _ _), .map none => some (goInt 0)
  | _, _ => none

def absCap0 (P : Program) (t : TypeId) (x : Value) : Option Value :=
  match P.underlying t, x with
  | some (.slice _), .slice _ _ c => if c < capU then some (goInt c) else none
  | _, _ => none

def absMakeIface (P : Program) (t : TypeId) (x : Value) : Option Value :=
  match P.underlying t with
  | some (.interface _) => none
  | some _ => some (.iface t x)
  | none => none

def absAssert (P : Program) (x : Value) (xt asserted : TypeId) (ok : Bool) : Option Value :=
  if pureD 8 x = true then bothPure P (Instr.typeAssert x xt asserted ok) else
  match P.underlying asserted, x with
  | some (.interface _), _ => none
  | some _, .iface t v => if t = asserted then some (if ok = true then .tuple #[v, .bool true] else v) else none
  | _, _ => none

def nilEq (P : Program) (t : TypeId) (a b : Value) : Option Bool :=
  match P.underlying t, a, b with
  | some (.pointer _), .pointer (some _), .pointer none => some false
  | some (.pointer _), .pointer none, .pointer (some _) => some false
  | some (.slice _), .slice (some _) _ _, .slice none _ _ => some false
  | some (.slice _), .slice none _ _, .slice (some _) _ _ => some false
  | some (.map _ _), .map (some _), .map none => some false
  | some (.map _ _), .map none, .map (some _) => some false
  | some (.func _ _ _), .func _ _ _, .nilFunc => some false
  | some (.func _ _ _), .nilFunc, .func _ _ _ => some false
  | _, _, _ => none

def absBin (P : Program) (op : BinOp) (t : TypeId) (x y : Operand) (a b : Value) : Option Value :=
  if pureD 8 a = true ∧ pureD 8 b = true then bothPure P (do eqGuard op t x y a b; binOp op t a b) else
  match op, nilEq P t a b with
  | .eql, some r => some (.bool r)
  | .neq, some r => some (.bool (!r))
  | _, _ => none

def bytesOf : List Value → Option (List Int)
  | [] => some []
  | .int .u8 n :: r => match bytesOf r with
    | some l => some (n :: l)
    | none => none
  | _ :: _ => none

def absConvert (P : Program) (src dst : TypeId) (x : Value) (m : AM) : Option Value :=
  if pureD 8 x = true then bothPure P (convert src dst x) else
  match P.underlying src, P.underlying dst, x with
  | some (.slice e), some .string, .slice (some a) n _ => match P.underlying e with
    | some (.int .u8) => if n = 0 then some (.string ByteArray.empty) else match absCells m a n with
      | some l => match bytesOf l with
        | some ns => some (.string (ns.foldl (fun r n => r.push (UInt8.ofNat n.toNat)) ByteArray.empty))
        | none => none
      | none => none
    | _ => none
  | _, _, _ => none

def pureO : Option Value → Bool
  | none => true
  | some v => pureD 8 v
def isStr (P : Program) (t : TypeId) : Bool := match P.underlying t with
  | some .string => true
  | _ => false

def absStaticCall (P : Program) (ρ : Operand → Value) (c : Call) (ty : TypeId) : Option Value :=
  match c.callee, c.args, c.argTypes with
  | .builtin .min, ⟨[x, y]⟩, ats => if okx x = true ∧ okx y = true ∧ pureD 8 (ρ x) = true ∧ pureD 8 (ρ y) = true then bothPure P (Builtin.min_ ats ty #[ρ x, ρ y]) else none
  | .builtin .max, ⟨[x, y]⟩, ats => if okx x = true ∧ okx y = true ∧ pureD 8 (ρ x) = true ∧ pureD 8 (ρ y) = true then bothPure P (Builtin.max_ ats ty #[ρ x, ρ y]) else none
  | .builtin .len, ⟨[x]⟩, ⟨[t]⟩ => if okx x = true then absLen0 P t (ρ x) else none
  | .builtin .cap, ⟨[x]⟩, ⟨[t]⟩ => if okx x = true then absCap0 P t (ρ x) else none
  | _, _, _ => none

def absStatic (P : Program) (ρ : Operand → Value) (o : Oper) : Option Value :=
  match o.op with
  | .move x => if okx x = true then some (ρ x) else none
  | .assign x => if okx x = true then some (ρ x) else none
  | .pick c a b => if okx c = true ∧ okx a = true ∧ okx b = true then match ρ c with
    | .bool β => some (if β = true then ρ a else ρ b)
    | _ => none else none
  | .build t ps => if okParts ps.toList = true then absBuild P t (ps.toList.map fun x => (x.1, ρ x.2)) else none
  | .nilCheck x => if okx x = true then match ρ x with
    | .pointer (some a) => some (.pointer (some a))
    | .func (.func f) a b => some (.func (.func f) a b)
    | _ => none else none
  | .binOp op t x y _ => if okx x = true ∧ okx y = true then absBin P op t x y (ρ x) (ρ y) else none
  | .unOp op _ x => if okx x = true ∧ pureD 8 (ρ x) = true then bothPure P (Op.unary op (ρ x)) else none
  | .convert src dst x => if okx x = true ∧ pureD 8 (ρ x) = true then bothPure P (convert src dst (ρ x)) else none
  | .makeFunc fn first captured => if okAll first.toList = true ∧ okAll captured.toList = true then some (.func fn (first.toList.map ρ).toArray (captured.toList.map ρ).toArray) else none
  | .slice t x lo hi mx => if okx x = true ∧ okOpt lo = true ∧ okOpt hi = true ∧ okOpt mx = true then
      (if isStr P t = true ∧ pureD 8 (ρ x) = true ∧ pureO (lo.map ρ) = true ∧ pureO (hi.map ρ) = true ∧ pureO (mx.map ρ) = true then bothPure P (Instr.sliceAt t (ρ x) (lo.map ρ) (hi.map ρ) (mx.map ρ))
      else absSlice P t (ρ x) (lo.map ρ) (hi.map ρ) (mx.map ρ)) else none
  | .fieldAddr s x f => if okx x = true then absFieldAddr P s (ρ x) f else none
  | .field t x f => if okx x = true then absField P t (ρ x) f else none
  | .indexAddr t x i => if okx x = true ∧ okx i = true then absIndexAddr P t (ρ x) (ρ i) else none
  | .index t x i => if okx x = true ∧ okx i = true then
      (if pureD 8 (ρ x) = true ∧ pureD 8 (ρ i) = true then bothPure P (Instr.index t (ρ x) (ρ i)) else absIndex P t (ρ x) (ρ i)) else none
  | .extract t i => if okx t = true then absExtract (ρ t) i else none
  | .makeInterface t x => if okx x = true then absMakeIface P t (ρ x) else none
  | .typeAssert x xt t ok => if okx x = true then absAssert P (ρ x) xt t ok else none
  | .call c => absStaticCall P ρ c o.type
  | _ => none

def absAppendAny (P : Program) (t tx : TypeId) (s x : Value) (m : AM) : Option (Value × AM) :=
  match absAppend P t tx s x m with
  | some r => some r
  | none => absAppendZ P t tx s x m

theorem absAppendAny_sound {P : Program} {W : Ref} {σ : Ren} (hz : zerosOk P = true) {m m' : AM} {w : World} (hw : WR W σ m w) {t tx ty : TypeId} {s s' x x' v : Value} (hs : RelV σ s s') (hx : RelV σ x x') (h : absAppendAny P t tx s x m = some (v, m')) :
    ∃ σ' v' w', Ext σ σ' ∧ (Builtin.append_ #[t, tx] ty #[s', x']).run P w = .ok v' w' ∧ WR W σ' m' w' ∧ RelV σ' v v' ∧ Quiet σ σ' m m' w w' := by
  unfold absAppendAny at h
  split at h
  · rename_i r hr
    injection h with h; subst h
    exact absAppend_sound hw hs hx hr
  · exact absAppendZ_sound hz hw hs hx h

def absCall (P : Program) (ρ : Operand → Value) (c : Call) (m : AM) : Option (ANext × AM) :=
  if okAll c.args.toList = true then
    match c.callee with
    | .builtin .append => match c.args, c.argTypes with
      | ⟨[s, x]⟩, ⟨[t, tx]⟩ => liftV (absAppendAny P t tx (ρ s) (ρ x) m)
      | _, _ => none
    | .builtin .copy => match c.args, c.argTypes with
      | ⟨[s, x]⟩, ⟨[t, _]⟩ => liftV (absCopy P t (ρ s) (ρ x) m)
      | _, _ => none
    | .builtin .len => match c.args, c.argTypes with
      | ⟨[x]⟩, ⟨[t]⟩ => stay m (absLen P t (ρ x) m)
      | _, _ => none
    | .builtin .delete => match c.args, c.argTypes with
      | ⟨[x, k]⟩, ⟨[t, _]⟩ => match absDelete P t (ρ x) (ρ k) m with
        | some m' => some (.value (.tuple #[]), m')
        | none => none
      | _, _ => none
    | .value f => if okx f = true then match ρ f with
      | .func (.func g) first captured => match P.funcs[g]? with
        | some fn => if fn.body.isSome = true then some (.enter g (first.toList ++ c.args.toList.map ρ ++ captured.toList).toArray, m) else none
        | none => none
      | _ => none else none
    | _ => none
  else none

def absLoud (P : Program) (ρ : Operand → Value) (o : Oper) (m : AM) : Option (ANext × AM) :=
  match o.op with
  | .alloc t => if t < P.types.size then liftV (arun P (Instr.alloc t true (.tuple #[])) m) else none
  | .box t x => if okx x = true then liftV (arun P (Instr.box t (ρ x)) m) else none
  | .buildSlice t n ps => if okParts ps.toList = true then liftV (absBuildSlice P t n (ps.toList.map fun x => (x.1, ρ x.2)).toArray m) else none
  | .load t a => if okx a = true then liftV (arun P (Instr.loadAt t (ρ a)) m) else none
  | .store t a x => if okx a = true ∧ okx x = true then liftU (arun P (Instr.storeAt t (ρ a) (ρ x)) m) else none
  | .convert src dst x => if okx x = true then stay m (absConvert P src dst (ρ x) m) else none
  | .makeSlice t l c => if okx l = true ∧ okx c = true then liftV (absMake P t (ρ l) (ρ c) m) else none
  | .makeMap t r => if okOpt r = true then liftV (absMakeMap P t (r.map ρ) m) else none
  | .lookup t x k ok => if okx x = true ∧ okx k = true then stay m (absLookup P t (ρ x) (ρ k) ok m) else none
  | .mapUpdate t x k v => if okx x = true ∧ okx k = true ∧ okx v = true then liftM (absUpdate P t (ρ x) (ρ k) (ρ v) m) else none
  | .insert t x k v => if okx x = true ∧ okx k = true ∧ okx v = true then liftM (absUpdate P t (ρ x) (ρ k) (ρ v) m) else none
  | .range t x => if okx x = true then liftV (absRange P t (ρ x) m) else none
  | .next x s => if okx x = true then liftV (absNext (ρ x) s m) else none
  | .call c => absCall P ρ c m
  | _ => none

def stepOp (P : Program) (ρ : Operand → Value) (o : Oper) (m : AM) : Option (ANext × AM) :=
  match absStatic P ρ o with
  | some v => some (.value v, m)
  | none => absLoud P ρ o m

def callsOk (P : Program) : Bool := P.funcs.toList.all fun fn => fn.body.isNone || fn.name != "runtime.NumGoroutine"

section
variable {P : Program} {W : Ref} {σ : Ren}

inductive RelN (σ : Ren) : ANext → Next → Prop where
  | value {v v' : Value} (h : RelV σ v v') : RelN σ (.value v) (.value v')
  | skip : RelN σ .skip .skip
  | enter (f : FuncId) {a a' : Array Value} (h : RelVs σ a a') : RelN σ (.enter f a) (.enter f a')

def RelE (σ : Ren) (ρ ρ' : Operand → Value) : Prop := ∀ x, okx x = true → RelV σ (ρ x) (ρ' x)

def Says (P : Program) (W : Ref) (σ : Ren) (m : AM) (w : World) (r : Option (ANext × AM)) (s : Sem Next) : Prop :=
  ∀ n m', r = some (n, m') → WR W σ m w → ∃ σ' n' w', Ext σ σ' ∧ s.run P w = .ok n' w' ∧ WR W σ' m' w' ∧ RelN σ' n n' ∧ Quiet σ σ' m m' w w'

variable {m : AM} {w : World}

theorem says_none {s : Sem Next} : Says P W σ m w none s := fun _ _ h => by cases h

theorem says_sim {s t : Sem Value} (h : Sim P W σ s t RelV) : Says P W σ m w (liftV (arun P s m)) (do pure (.value (← t))) := by
  intro n m' hr hw
  cases ha : arun P s m with
  | none => rw [ha] at hr; cases hr
  | some q =>
    obtain ⟨v, m1⟩ := q
    rw [ha] at hr
    injection hr with hr; injection hr with h1 h2; subst h1 h2
    obtain ⟨σ', b, w', e1, e2, e3, e4, q⟩ := h m w v m1 hw ha
    exact ⟨σ', .value b, w', e1, by simp [e2], e3, .value e4, q⟩

theorem says_simU {s t : Sem Unit} {R : Ren → Unit → Unit → Prop} (h : Sim P W σ s t R) : Says P W σ m w (liftU (arun P s m)) (do t; pure .skip) := by
  intro n m' hr hw
  cases ha : arun P s m with
  | none => rw [ha] at hr; cases hr
  | some q =>
    obtain ⟨v, m1⟩ := q
    rw [ha] at hr
    injection hr with hr; injection hr with h1 h2; subst h1 h2
    obtain ⟨σ', b, w', e1, e2, e3, e4, q⟩ := h m w v m1 hw ha
    exact ⟨σ', .skip, w', e1, by simp [e2], e3, .skip, q⟩

theorem says_lift {r : Option (Value × AM)} {t : Sem Value} (h : WR W σ m w → ∀ v m', r = some (v, m') → ∃ σ' v' w', Ext σ σ' ∧ t.run P w = .ok v' w' ∧ WR W σ' m' w' ∧ RelV σ' v v' ∧ Quiet σ σ' m m' w w') :
    Says P W σ m w (liftV r) (do pure (.value (← t))) := by
  intro n m' hr hw
  cases r with
  | none => cases hr
  | some q =>
    obtain ⟨v, m1⟩ := q
    injection hr with hr; injection hr with h1 h2; subst h1 h2
    obtain ⟨σ', b, w', e1, e2, e3, e4, q⟩ := h hw v m1 rfl
    exact ⟨σ', .value b, w', e1, by simp [e2], e3, .value e4, q⟩

theorem says_stay {r : Option Value} {t : Sem Value} (h : WR W σ m w → ∀ v, r = some v → ∃ v', t.run P w = .ok v' w ∧ RelV σ v v') : Says P W σ m w (stay m r) (do pure (.value (← t))) := by
  intro n m' hr hw
  cases r with
  | none => cases hr
  | some v =>
    injection hr with hr; injection hr with h1 h2; subst h1 h2
    obtain ⟨b, e2, e4⟩ := h hw v rfl
    exact ⟨σ, .value b, w, Ext.refl σ, by simp [e2], hw, .value e4, Quiet.refl⟩

theorem bothPure_run {s : Sem Value} {v : Value} (h : bothPure P s = some v) : (∀ w : World, s.run P w = .ok v w) ∧ RelV σ v v := by
  unfold bothPure at h
  split at h
  · rename_i u hu
    split at h
    · rename_i hp
      injection h with h; subst h
      exact ⟨fun w => peel_run hu w, pure_rel 8 u hp⟩
    · cases h
  · cases h

theorem okAll_rel {ρ ρ' : Operand → Value} (hE : RelE σ ρ ρ') : ∀ (l : List Operand), okAll l = true → RelL σ (l.map ρ) (l.map ρ')
  | [], _ => RelL.nil
  | x :: r, h => by
    simp only [okAll, Bool.and_eq_true] at h
    have ih := okAll_rel hE r h.2
    refine ⟨by simp, fun i v v' hv hv' => ?_⟩
    cases i with
    | zero =>
      simp only [List.map_cons, List.getElem?_cons_zero, Option.some.injEq] at hv hv'
      subst hv hv'; exact hE x h.1
    | succ i => exact ih.each i v v' (by simpa using hv) (by simpa using hv')

theorem okParts_rel {ρ ρ' : Operand → Value} (hE : RelE σ ρ ρ') : ∀ (l : List (Nat × Operand)), okParts l = true → RelP σ (l.map fun x => (x.1, ρ x.2)) (l.map fun x => (x.1, ρ' x.2))
  | [], _ => ⟨rfl, fun i v v' h _ => by simp at h⟩
  | x :: r, h => by
    simp only [okParts, Bool.and_eq_true] at h
    have ih := okParts_rel hE r h.2
    refine ⟨by simp, fun i v v' hv hv' => ?_⟩
    cases i with
    | zero =>
      simp only [List.map_cons, List.getElem?_cons_zero, Option.some.injEq] at hv hv'
      subst hv hv'; exact ⟨rfl, hE x.2 h.1⟩
    | succ i => exact ih.each i v v' (by simpa using hv) (by simpa using hv')

theorem okOpt_rel {ρ ρ' : Operand → Value} (hE : RelE σ ρ ρ') : ∀ (x : Option Operand), okOpt x = true → RelOV σ (x.map ρ) (x.map ρ')
  | none, _ => trivial
  | some x, h => hE x h

theorem nilEq_in {t : TypeId} {a a' b b' : Value} (ha : RelV σ a a') (hb : RelV σ b b') {r : Bool} (h : nilEq P t a b = some r) (w : World) (d : Nat) : (Op.equalIn (d + 1) t a' b').run P w = .ok r w := by
  unfold nilEq at h
  split at h
  case h_9 => cases h
  all_goals
    rename_i ht
    injection h with h; subst h
    cases ha <;> cases hb <;> simp [Op.equalIn, run_underlying ht]

theorem nilEq_guard {t : TypeId} {a a' b b' : Value} (ha : RelV σ a a') (hb : RelV σ b b') {r : Bool} (h : nilEq P t a b = some r) (w : World) (op : BinOp) (x y : Operand) : (eqGuard op t x y a' b').run P w = .ok () w := by
  unfold nilEq at h
  split at h
  case h_9 => cases h
  all_goals
    cases ha <;> cases hb <;> cases op <;> simp [eqGuard]

theorem nilEq_bin {t : TypeId} {a a' b b' : Value} (ha : RelV σ a a') (hb : RelV σ b b') {r : Bool} (h : nilEq P t a b = some r) : binOp .eql t a' b' = (do pure (.bool (← Op.equal t a' b')) : Sem Value) ∧ binOp .neq t a' b' = (do pure (.bool (!(← Op.equal t a' b'))) : Sem Value) := by
  unfold nilEq at h
  split at h
  case h_9 => cases h
  all_goals
    cases ha <;> cases hb <;> exact ⟨rfl, rfl⟩

theorem absBin_sound {op : BinOp} {t : TypeId} {x y : Operand} {a a' b b' v : Value} (ha : RelV σ a a') (hb : RelV σ b b') (h : absBin P op t x y a b = some v) :
    ∃ v', (∀ w : World, (do eqGuard op t x y a' b'; binOp op t a' b' : Sem Value).run P w = .ok v' w) ∧ RelV σ v v' := by
  unfold absBin at h
  split at h
  · rename_i hp
    have e1 := pure_eq 8 _ _ hp.1 ha
    have e2 := pure_eq 8 _ _ hp.2 hb
    subst e1 e2
    exact ⟨v, bothPure_run h⟩
  · split at h
    · rename_i r hr
      injection h with h; subst h
      refine ⟨_, fun w => ?_, .bool r⟩
      have e : (Op.equal t a' b').run P w = .ok r w := nilEq_in ha hb hr w 9999
      rw [Sem.run_bind, nilEq_guard ha hb hr, Result.andThen_ok, (nilEq_bin ha hb hr).1, Sem.run_bind, e]
      rfl
    · rename_i r hr
      injection h with h; subst h
      refine ⟨_, fun w => ?_, .bool (!r)⟩
      have e : (Op.equal t a' b').run P w = .ok r w := nilEq_in ha hb hr w 9999
      rw [Sem.run_bind, nilEq_guard ha hb hr, Result.andThen_ok, (nilEq_bin ha hb hr).2, Sem.run_bind, e]
      rfl
    · cases h

theorem absLen0_sound {t : TypeId} {ts : Array TypeId} {ty : TypeId} {x x' v : Value} (hts : ts[0]? = some t) (hx : RelV σ x x') (h : absLen0 P t x = some v) :
    ∃ v', (∀ w : World, (Builtin.len_ ts ty #[x']).run P w = .ok v' w) ∧ RelV σ v v' := by
  unfold absLen0 at h
  split at h
  · rename_i s ht
    injection h with h; subst h; cases hx
    exact ⟨_, fun w => by simp [Builtin.len_, hts, run_underlying ht, goInt], .int _ _⟩
  · rename_i n e ht
    injection h with h; subst h
    exact ⟨_, fun w => by simp [Builtin.len_, hts, run_underlying ht, goInt], .int _ _⟩
  · rename_i e a n c ht
    injection h with h; subst h
    cases hx <;> exact ⟨_, fun w => by simp [Builtin.len_, hts, run_underlying ht, goInt], .int _ _⟩
  · rename_i k e ht
    injection h with h; subst h; cases hx
    exact ⟨_, fun w => by simp [Builtin.len_, hts, run_underlying ht, goInt], .int _ _⟩
  · cases h

theorem absCap0_sound {t : TypeId} {ts : Array TypeId} {ty : TypeId} {x x' v : Value} (hts : ts[0]? = some t) (hx : RelV σ x x') (h : absCap0 P t x = some v) :
    ∃ v', (∀ w : World, (Builtin.cap_ ts ty #[x']).run P w = .ok v' w) ∧ RelV σ v v' := by
  unfold absCap0 at h
  split at h
  · rename_i e a n c ht
    split at h
    · rename_i hc
      injection h with h; subst h
      have key : ∃ a' n', x' = .slice a' n' c := by
        cases hx with
        | nilSlice l c => exact ⟨_, _, rfl⟩
        | slice l c c' hh hc' hu => rw [hc' hc]; exact ⟨_, _, rfl⟩
        | empty c c' a hc' => rw [hc' hc]; exact ⟨_, _, rfl⟩
        | tail c' a hh hz hr => exact absurd hc (by omega)
      obtain ⟨a', n', rfl⟩ := key
      exact ⟨_, fun w => by simp [Builtin.cap_, hts, run_underlying ht, goInt], .int _ _⟩
    · cases h
  · cases h

theorem absMakeIface_sound {t : TypeId} {x x' v : Value} (hx : RelV σ x x') (h : absMakeIface P t x = some v) : ∃ v', (∀ w : World, (Instr.makeInterface t x').run P w = .ok v' w) ∧ RelV σ v v' := by
  unfold absMakeIface at h
  split at h
  · cases h
  · rename_i d hne ht
    injection h with h; subst h
    refine ⟨.iface t x', fun w => ?_, .iface t hx⟩
    cases d <;> first | (simp [Instr.makeInterface, run_underlying ht]; done) | exact (hne _ rfl).elim
  · cases h

theorem bytesOf_rel : ∀ (l l' : List Value) (ns : List Int), bytesOf l = some ns → RelL σ l l' → l' = ns.map (Value.int .u8)
  | [], l', ns, h, hl => by
    injection h with h; subst h
    exact List.eq_nil_of_length_eq_zero hl.size.symm
  | v :: r, [], ns, h, hl => by have := hl.size; simp at this
  | v :: r, v' :: r', ns, h, hl => by
    obtain ⟨h1, h2⟩ := hl.cons_inv
    unfold bytesOf at h
    split at h
    · cases ‹v :: r = []›
    · rename_i n r0 heq
      injection heq with e1 e2; subst e1 e2
      split at h
      · rename_i q hq
        injection h with h; subst h
        cases h1
        rw [bytesOf_rel _ _ _ hq h2]; rfl
      · cases h
    · cases h

theorem absAssert_sound {x x' v : Value} {xt t : TypeId} {ok : Bool} (hx : RelV σ x x') (h : absAssert P x xt t ok = some v) : ∃ v', (∀ w : World, (Instr.typeAssert x' xt t ok).run P w = .ok v' w) ∧ RelV σ v v' := by
  unfold absAssert at h
  split at h
  · rename_i hp
    rw [pure_eq 8 _ _ hp hx]
    exact ⟨v, bothPure_run h⟩
  · split at h
    · cases h
    · rename_i d u y ht hne
      split at h
      · rename_i hu
        subst hu
        injection h with h; subst h
        cases hx with
        | iface _ hv =>
          rename_i y'
          refine ⟨if ok = true then .tuple #[y', .bool true] else y', fun w => ?_, ?_⟩
          · cases d <;> first | (simp [Instr.typeAssert, run_underlying ht]; done) | exact (hne _ rfl).elim
          · cases ok
            · exact hv
            · exact RelVs.mkTuple ((RelVs.one hv).push (.bool true))
      · cases h
    · cases h

theorem absConvert_sound {src dst : TypeId} {x x' v : Value} (hw : WR W σ m w) (hx : RelV σ x x') (h : absConvert P src dst x m = some v) : ∃ v', (convert src dst x').run P w = .ok v' w ∧ RelV σ v v' := by
  unfold absConvert at h
  split at h
  · rename_i hp
    have e1 := pure_eq 8 _ _ hp hx
    subst e1
    exact ⟨v, (bothPure_run (σ := σ) h).1 w, (bothPure_run h).2⟩
  · split at h
    · rename_i e a n c hs hd hpx
      split at h
      · rename_i he
        split at h
        · rename_i hn
          subst hn
          injection h with h; subst h
          have key : ∀ (b : Addr) (c' : Nat), (convert src dst (.slice (some b) 0 c')).run P w = .ok (.string ByteArray.empty) w := by
            intro b c'
            rw [run_convert_bytes_string w src dst e _ _ _ hs he hd]
            exact run_bytesToString w b 0 c' [] (by simp [loadCells, loadCellsFrom])
          cases hx with
          | slice l c c' hh hc hu => exact ⟨_, key _ _, .string _⟩
          | empty c c' a' hc => exact ⟨_, key _ _, .string _⟩
          | tail c' a' hh hz hr => exact ⟨_, key _ _, .string _⟩
        · rename_i hn
          split at h
          · rename_i l hl
            split at h
            · rename_i ns hns
              injection h with h; subst h
              cases hx with
              | slice l0 c c' hh hc hu =>
                rename_i bb o e2
                have hab : RelA σ ⟨bb, o, none⟩ ⟨e2.blk, o + e2.sh, none⟩ := ⟨e2, hh, rfl, rfl⟩
                obtain ⟨g0, l', g1, g2, g3⟩ := absCells_sound hw hab hl
                have := bytesOf_rel _ _ _ hns g1
                subst this
                refine ⟨_, ?_, .string _⟩
                rw [run_convert_bytes_string w src dst e _ _ _ hs he hd]
                refine run_bytesToString w _ n c' ns ?_
                have := run_firstCells_some (P := P) w 1 n _ n c' _ (by simpa using g2) g3
                simpa [Builtin.firstCells] using this
              | empty c c' a' hc => exact absurd rfl hn
              | tail c' a' hh hz hr => exact absurd rfl hn
            · cases h
          · cases h
      · cases h
    · cases h
end
end Go.Proofs.Ytfghccppoilfhaa
