/-
  Calls that were run before: what they came to is laid down, and taken where the same call comes up again. No condition.
-/
import Derived.Test.YtbjhkhhbdlnfbaaGreatDoorCeK
namespace Go.Proofs.YtbjhkhhbdlnfbaaGreatDoor
open Go.RowKit

/-! ### Whether two things are the same -/
def eqLs {α : Type} (f : α → α → Bool) : List α → List α → Bool
  | [], [] => true
  | x :: a, y :: b => f x y && eqLs f a b
  | _, _ => false
theorem eqLs_eq {α : Type} {f : α → α → Bool} (hf : ∀ x y, f x y = true → x = y) : ∀ {a b : List α}, eqLs f a b = true → a = b
  | [], [], _ => rfl
  | x :: a, y :: b, h => by
    simp only [eqLs, Bool.and_eq_true] at h
    rw [hf _ _ h.1, eqLs_eq hf h.2]
  | [], _ :: _, h => by cases h
  | _ :: _, [], h => by cases h
def eqArr {α : Type} (f : α → α → Bool) (a b : Array α) : Bool := eqLs f a.toList b.toList
theorem eqArr_eq {α : Type} {f : α → α → Bool} (hf : ∀ x y, f x y = true → x = y) {a b : Array α} (h : eqArr f a b = true) : a = b := Array.ext' (eqLs_eq hf h)
def eqInt : Int → Int → Bool
  | .ofNat a, .ofNat b => Nat.beq a b
  | .negSucc a, .negSucc b => Nat.beq a b
  | _, _ => false
theorem eqInt_eq {a b : Int} (h : eqInt a b = true) : a = b := by
  unfold eqInt at h
  split at h
  · rw [Nat.eq_of_beq_eq_true h]
  · rw [Nat.eq_of_beq_eq_true h]
  · cases h
def eqBool : Bool → Bool → Bool
  | true, b => b
  | false, true => false
  | false, false => true
theorem eqBool_eq {a b : Bool} (h : eqBool a b = true) : a = b := by cases a <;> cases b <;> first | rfl | cases h
def kindNo : IntKind → Nat
  | .i8 => 0
  | .i16 => 1
  | .i32 => 2
  | .i64 => 3
  | .u8 => 4
  | .u16 => 5
  | .u32 => 6
  | .u64 => 7
theorem kindNo_eq {a b : IntKind} (h : kindNo a = kindNo b) : a = b := by cases a <;> cases b <;> first | rfl | (simp [kindNo] at h)
def eqU8 (a b : UInt8) : Bool := Nat.beq a.toNat b.toNat
theorem eqU8_eq (a b : UInt8) (h : eqU8 a b = true) : a = b := UInt8.toNat_inj.1 (Nat.eq_of_beq_eq_true h)
def eqBytes (a b : ByteArray) : Bool := eqArr eqU8 a.data b.data
theorem eqBytes_eq {a b : ByteArray} (h : eqBytes a b = true) : a = b := by
  obtain ⟨a⟩ := a
  obtain ⟨b⟩ := b
  have : a = b := eqArr_eq eqU8_eq h
  rw [this]
def eqAddr (a b : Addr) : Bool := Nat.beq a.block b.block && Nat.beq a.off b.off && a.spot.isNone && b.spot.isNone
theorem eqAddr_eq {a b : Addr} (h : eqAddr a b = true) : a = b := by
  obtain ⟨a1, a2, a3⟩ := a
  obtain ⟨b1, b2, b3⟩ := b
  simp only [eqAddr, Bool.and_eq_true, Option.isNone_iff_eq_none] at h
  obtain ⟨⟨⟨h1, h2⟩, rfl⟩, rfl⟩ := h
  rw [Nat.eq_of_beq_eq_true h1, Nat.eq_of_beq_eq_true h2]
def eqOpt {α : Type} (f : α → α → Bool) : Option α → Option α → Bool
  | none, none => true
  | some x, some y => f x y
  | _, _ => false
theorem eqOpt_eq {α : Type} {f : α → α → Bool} (hf : ∀ x y, f x y = true → x = y) {a b : Option α} (h : eqOpt f a b = true) : a = b := by
  cases a <;> cases b <;> first | rfl | (rw [hf _ _ h]) | cases h
theorem natBeq_eq (a b : Nat) (h : Nat.beq a b = true) : a = b := Nat.eq_of_beq_eq_true h
def eqFn : Fn → Fn → Bool
  | .func f, .func g => Nat.beq f g
  | _, _ => false
theorem eqFn_eq {a b : Fn} (h : eqFn a b = true) : a = b := by
  unfold eqFn at h
  split at h
  · rw [Nat.eq_of_beq_eq_true h]
  · cases h
def eqV : Nat → Value → Value → Bool
  | 0, _, _ => false
  | n + 1, x, y => match x with
    | .bool a => match y with
      | .bool b => eqBool a b
      | _ => false
    | .int k a => match y with
      | .int k' b => Nat.beq (kindNo k) (kindNo k') && eqInt a b
      | _ => false
    | .string a => match y with
      | .string b => eqBytes a b
      | _ => false
    | .pointer a => match y with
      | .pointer b => eqOpt eqAddr a b
      | _ => false
    | .slice a l c => match y with
      | .slice b l' c' => eqOpt eqAddr a b && Nat.beq l l' && Nat.beq c c'
      | _ => false
    | .map a => match y with
      | .map b => eqOpt Nat.beq a b
      | _ => false
    | .func f a c => match y with
      | .func g b d => eqFn f g && eqArr (eqV n) a b && eqArr (eqV n) c d
      | _ => false
    | .nilFunc => match y with
      | .nilFunc => true
      | _ => false
    | .iface t a => match y with
      | .iface u b => Nat.beq t u && eqV n a b
      | _ => false
    | .nilIface => match y with
      | .nilIface => true
      | _ => false
    | .agg a => match y with
      | .agg b => eqArr (eqV n) a b
      | _ => false
    | .tuple a => match y with
      | .tuple b => eqArr (eqV n) a b
      | _ => false
    | _ => false
theorem eqV_eq : ∀ (n : Nat) (x y : Value), eqV n x y = true → x = y := by
  intro n
  induction n with
  | zero => intro x y h; cases h
  | succ n ih =>
    intro x y h
    unfold eqV at h
    split at h <;> (try (cases h; done)) <;> split at h <;> (try (cases h; done)) <;> (try simp only [Bool.and_eq_true] at h)
    · rw [eqBool_eq h]
    · rw [kindNo_eq (Nat.eq_of_beq_eq_true h.1), eqInt_eq h.2]
    · rw [eqBytes_eq h]
    · rw [eqOpt_eq (fun _ _ => eqAddr_eq) h]
    · rw [eqOpt_eq (fun _ _ => eqAddr_eq) h.1.1, Nat.eq_of_beq_eq_true h.1.2, Nat.eq_of_beq_eq_true h.2]
    · rw [eqOpt_eq natBeq_eq h]
    · rw [eqFn_eq h.1.1, eqArr_eq ih h.1.2, eqArr_eq ih h.2]
    · rfl
    · rw [Nat.eq_of_beq_eq_true h.1, ih _ _ h.2]
    · rfl
    · rw [eqArr_eq ih h]
    · rw [eqArr_eq ih h]
def eqEntry (x y : MapEntry) : Bool := eqV 6 x.key y.key && eqV 6 x.val y.val && Nat.beq x.born y.born
theorem eqEntry_eq (x y : MapEntry) (h : eqEntry x y = true) : x = y := by
  obtain ⟨a, b, c⟩ := x
  obtain ⟨a', b', c'⟩ := y
  simp only [eqEntry, Bool.and_eq_true] at h
  rw [eqV_eq _ _ _ h.1.1, eqV_eq _ _ _ h.1.2, Nat.eq_of_beq_eq_true h.2]
def eqObj (x y : Obj) : Bool := match x with
  | .cells c e f => match y with
    | .cells c' e' f' => eqArr (eqV 6) c c' && Nat.beq e e' && Nat.beq f.1 f'.1 && Nat.beq f.2 f'.2
    | _ => false
  | .map es k => match y with
    | .map es' k' => eqArr eqEntry es es' && Nat.beq k k'
    | _ => false
  | .stringIter s p => match y with
    | .stringIter s' p' => eqBytes s s' && Nat.beq p p'
    | _ => false
  | .mapIter m k l n => match y with
    | .mapIter m' k' l' n' => eqOpt Nat.beq m m' && Nat.beq k k' && eqArr Nat.beq l l' && Nat.beq n n'
    | _ => false
  | _ => false
theorem eqObj_eq (x y : Obj) (h : eqObj x y = true) : x = y := by
  unfold eqObj at h
  split at h <;> (try (cases h; done)) <;> split at h <;> (try (cases h; done)) <;> simp only [Bool.and_eq_true] at h
  · obtain ⟨⟨⟨h1, h2⟩, h3⟩, h4⟩ := h
    rename_i f _ _ _ f'
    obtain ⟨a, b⟩ := f
    obtain ⟨a', b'⟩ := f'
    have e3 : a = a' := Nat.eq_of_beq_eq_true h3
    have e4 : b = b' := Nat.eq_of_beq_eq_true h4
    rw [eqArr_eq (eqV_eq 6) h1, Nat.eq_of_beq_eq_true h2, e3, e4]
  · rw [eqArr_eq eqEntry_eq h.1, Nat.eq_of_beq_eq_true h.2]
  · rw [eqBytes_eq h.1, Nat.eq_of_beq_eq_true h.2]
  · obtain ⟨⟨⟨h1, h2⟩, h3⟩, h4⟩ := h
    rw [eqOpt_eq natBeq_eq h1, Nat.eq_of_beq_eq_true h2, eqArr_eq natBeq_eq h3, Nat.eq_of_beq_eq_true h4]
def eqTr {α : Type} (f : α → α → Bool) : Tr α → Tr α → Bool
  | .nil, .nil => true
  | .node v l r, .node v' l' r' => eqOpt f v v' && eqTr f l l' && eqTr f r r'
  | _, _ => false
theorem eqTr_eq {α : Type} {f : α → α → Bool} (hf : ∀ x y, f x y = true → x = y) : ∀ {a b : Tr α}, eqTr f a b = true → a = b
  | .nil, .nil, _ => rfl
  | .node v l r, .node v' l' r', h => by
    simp only [eqTr, Bool.and_eq_true] at h
    rw [eqOpt_eq hf h.1.1, eqTr_eq hf h.1.2, eqTr_eq hf h.2]
  | .nil, .node _ _ _, h => by cases h
  | .node _ _ _, .nil, h => by cases h
def eqAM (m m' : AM) : Bool := Nat.beq m.next m'.next && Nat.beq m.tick m'.tick && eqTr eqObj m.heap m'.heap
theorem eqAM_eq {m m' : AM} (h : eqAM m m' = true) : m = m' := by
  obtain ⟨a, b, c⟩ := m
  obtain ⟨a', b', c'⟩ := m'
  simp only [eqAM, Bool.and_eq_true] at h
  have h1 : a = a' := Nat.eq_of_beq_eq_true h.1.1
  have h2 : c = c' := Nat.eq_of_beq_eq_true h.1.2
  have h3 : b = b' := eqTr_eq eqObj_eq h.2
  rw [h1, h2, h3]

/-! ### Calls laid down -/
def noMemo : Callee1 := fun _ _ _ => none
def oneMemo (f0 : FuncId) (a0 : Array Value) (m0 : AM) (v0 : Value) (m1 : AM) (rest : Callee1) : Callee1 := fun f args m =>
  bif Nat.beq f f0 && eqArr (eqV 6) args a0 && eqAM m m0 then some (v0, m1) else rest f args m

def evalMem (P : Program) (memo : Callee1) (steps : Nat) : Nat → Callee1
  | 0, _, _, _ => none
  | d + 1, f, args, m => match memo f args m with
    | some r => some r
    | none => match P.funcs[f]? with
      | some fn => match fn.body with
        | some c => if args.size ≤ fn.ntmps ∧ fn.ntmps ≤ 1000000 then
            match evalCode P (evalMem P memo steps d) fn.ntmps steps c (initT args.toList 0 .nil) m with
            | some (.normal, t, m') => match aresults P fn.results.toList t m' with
              | some l => some (oneOf l, m')
              | none => none
            | some (.ret, t, m') => match aresults P fn.results.toList t m' with
              | some l => some (oneOf l, m')
              | none => none
            | _ => none
          else none
        | none => none
      | none => none

section
variable {P : Program}
theorem noMemo_ok {T : (Nat → Value) → Prop} : CallOk P T noMemo := by
  intro f args m v m' h
  cases h

theorem evalMem_sound (hz : zerosOk P = true) (hc : callsOk P = true) (hm : P.follows .mixedOrders = true) {T : (Nat → Value) → Prop} {memo : Callee1} (ho : CallOk P T memo) (steps : Nat) : ∀ d, CallOk P T (evalMem P memo steps d) := by
  intro d
  induction d with
  | zero => intro f args m v m' h; cases h
  | succ d ih =>
    intro f args m v m' h W σ w args' hT hw hargs
    unfold evalMem at h
    split at h
    · rename_i r hr
      injection h with h; subst h
      exact ho f args m v m' hr W σ w args' hT hw hargs
    split at h
    · rename_i fn hfn
      split at h
      · rename_i c hcode
        split at h
        · rename_i hq
          obtain ⟨hq1, hq2⟩ := hq
          have ht := initT_rel hargs hq1 hq2
          have fin : ∀ {x : AExit} {t1 : Tr Value} {m1 : AM} {l : List Value}, (x = .normal ∨ x = .ret) → evalCode P (evalMem P memo steps d) fn.ntmps steps c (initT args.toList 0 .nil) m = some (x, t1, m1) → aresults P fn.results.toList t1 m1 = some l →
              Calls P f args' w fun e w' => ∃ σ' v', e = .returned v' ∧ Ext σ σ' ∧ WR W σ' m1 w' ∧ RelV σ' (oneOf l) v' := by
            intro x t1 m1 l hx h1 h2
            refine calls_of_wp hfn hcode (wp_mono (evalCode_sound hz hc hm ih steps c _ t1 m m1 x σ _ w hT h1 hw ht).1 fun e a w1 hh => ?_)
            obtain ⟨rfl, σ1, g1, g2, g3⟩ := hh
            obtain ⟨l', q1, q2⟩ := aresults_sound g2 g3 _ l h2
            have q3 := results_run (P := P) (fn := fn) (tmps := a.tmps) (l' := l'.toArray) (w := w1) q2
            have hb : a.defers = [] ∧ ∃ v, (results fn a.tmps).run P w1 = .ok v w1 ∧ ∃ σ' v', Ending.returned v = .returned v' ∧ Ext σ σ' ∧ WR W σ' m1 w1 ∧ RelV σ' (oneOf l) v' :=
              ⟨g3.defers, _, q3, σ1, _, rfl, g1, g2, oneOf_rel q1⟩
            rcases hx with rfl | rfl <;> exact hb
          split at h
          · rename_i t1 m1 h1
            split at h
            · rename_i l h2
              injection h with h; injection h with e1 e2; subst e1 e2
              exact fin (.inl rfl) h1 h2
            · cases h
          · rename_i t1 m1 h1
            split at h
            · rename_i l h2
              injection h with h; injection h with e1 e2; subst e1 e2
              exact fin (.inr rfl) h1 h2
            · cases h
          · cases h
        · cases h
      · cases h
    · cases h

def memoRuns (P : Program) (memo : Callee1) (steps d : Nat) (f : FuncId) (a : Array Value) (m : AM) (v : Value) (m1 : AM) : Bool := match evalMem P memo steps d f a m with
  | some (v', m1') => eqV 6 v' v && eqAM m1' m1
  | none => false
theorem memo_step (hz : zerosOk P = true) (hc : callsOk P = true) (hm : P.follows .mixedOrders = true) {memo rest : Callee1} (ho : CallOk P (fun _ => True) memo) (hr : CallOk P (fun _ => True) rest) {steps d : Nat} {f : FuncId} {a : Array Value} {m : AM} {v : Value} {m1 : AM}
    (h : memoRuns P memo steps d f a m v m1 = true) : CallOk P (fun _ => True) (oneMemo f a m v m1 rest) := by
  intro f' a' m' v' m1' h' W σ w args' hT hw hargs
  unfold oneMemo at h'
  cases hq : Nat.beq f' f && eqArr (eqV 6) a' a && eqAM m' m with
  | true =>
    rw [hq] at h'
    simp only [cond_true, Option.some.injEq, Prod.mk.injEq] at h'
    obtain ⟨rfl, rfl⟩ := h'
    simp only [Bool.and_eq_true] at hq
    obtain ⟨⟨q1, q2⟩, q3⟩ := hq
    have e1 := Nat.eq_of_beq_eq_true q1
    have e2 := eqArr_eq (eqV_eq 6) q2
    have e3 := eqAM_eq q3
    subst e1 e2 e3
    unfold memoRuns at h
    split at h
    · rename_i v2 m2 hv
      simp only [Bool.and_eq_true] at h
      have g1 := eqV_eq _ _ _ h.1
      have g2 := eqAM_eq h.2
      subst g1 g2
      exact evalMem_sound hz hc hm ho steps d _ _ _ _ _ hv W σ w args' hT hw hargs
    · cases h
  | false =>
    rw [hq] at h'
    exact hr f' a' m' v' m1' h' W σ w args' hT hw hargs

def memTrue (P : Program) (memo : Callee1) (steps d : Nat) (f : FuncId) (args : Array Value) : Bool := match evalMem P memo steps d f args am0 with
  | some (.bool b, _) => b
  | _ => false
theorem mem_true (hz : zerosOk P = true) (hc : callsOk P = true) (hm : P.follows .mixedOrders = true) {memo : Callee1} (ho : CallOk P (fun _ => True) memo) (steps d : Nat) (f : FuncId) (h : memTrue P memo steps d f #[] = true) (w : World) : Calls P f #[] w fun e w' => e = .returned (.bool true) ∧ V.Under w.heap.size w w' := by
  unfold memTrue at h
  split at h
  · rename_i b m' hv
    refine (evalMem_sound hz hc hm ho steps d f #[] am0 _ m' hv ⟨w, fun _ => False⟩ ⟨fun _ => none, fun _ => .bool false, fun _ => rfl⟩ w #[] trivial (am0_rel (fun _ => .bool false) (fun _ => rfl) w) ⟨rfl, fun i v v' hv _ => by simp at hv⟩).mono fun e w' hh => ?_
    obtain ⟨σ', v', rfl, _, g2, g3⟩ := hh
    cases g3
    exact ⟨by rw [h], ⟨⟨g2.below.os, g2.below.tape, g2.below.output, g2.below.size, fun k hk => g2.below.block k hk (fun h => h)⟩, g2.below.drawn⟩⟩
  · cases h
end
end Go.Proofs.YtbjhkhhbdlnfbaaGreatDoor
