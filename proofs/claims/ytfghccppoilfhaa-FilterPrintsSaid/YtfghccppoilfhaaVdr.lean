/-
  How often the tape was asked never falls, whatever the machine does. No condition.
-/
import Derived.Test.YtfghccppoilfhaaVd0
import Derived.Calls
import Derived.RunT
import Derived.Below
namespace Go.Proofs.Ytfghccppoilfhaa.V
open Go Go.RowKit

def dOf {α : Type} : Result α → Nat
  | .ok _ w => w.drawn
  | .halt _ w => w.drawn
theorem run_d {P : Program} {α : Type} : ∀ (s : Sem α) (w : World), w.drawn ≤ dOf (s.run P w) := by
  intro s
  induction s with
  | pure a => intro w; exact Nat.le_refl _
  | load m a k ih =>
    intro w
    simp only [Sem.run]
    split
    · exact ih _ w
    · split
      · exact ih _ w
      · exact Nat.le_refl _
  | store m a u k ih =>
    intro w
    cases u <;> simp only [Sem.run] <;> first
      | exact Nat.le_refl _
      | (split
         · split
           · exact Nat.le_refl _
           · exact Nat.le_trans (Nat.le_refl w.drawn) (ih (w.setCell a _))
         · split
           · rename_i w1 l h1
             have := ih w1
             rw [farStore_mono h1] at this
             exact this
           · exact Nat.le_refl _)
  | new o k ih => intro w; simp only [Sem.run]; exact ih _ { w with heap := w.heap.push o }
  | shape r k ih => intro w; simp only [Sem.run]; exact ih _ _
  | freeze a n k ih => intro w; simp only [Sem.run]; have := ih (w.freeze a n); rw [freeze_drawn] at this; exact this
  | frozen a k ih => intro w; simp only [Sem.run]; exact ih _ _
  | getObj r k ih =>
    intro w
    simp only [Sem.run]
    split
    · exact Nat.le_refl _
    · exact ih _ _
    · exact Nat.le_refl _
  | setObj r o k ih =>
    intro w
    simp only [Sem.run]
    split
    · exact Nat.le_refl _
    · exact ih { w with heap := w.heap.setIfInBounds r o }
    · exact Nat.le_refl _
  | choose q k ih =>
    intro w
    simp only [Sem.run]
    split
    · exact ih _ _
    · exact Nat.le_trans (Nat.le_succ _) (ih _ { w with drawn := w.drawn + 1 })
  | sys c k ih => intro w; simp only [Sem.run]; exact Nat.le_trans (sys_mono w c) (ih _ _)
  | program k ih => intro w; simp only [Sem.run]; exact ih _ _
  | mark m k ih => intro w; simp only [Sem.run]; exact ih _
  | halt h => intro w; exact Nat.le_refl _
theorem run_ok {P : Program} {α : Type} {s : Sem α} {w w' : World} {v : α} (h : s.run P w = .ok v w') : w.drawn ≤ w'.drawn := by
  have := run_d (P := P) s w; rw [h] at this; exact this
theorem run_halt {P : Program} {α : Type} {s : Sem α} {w w' : World} {x : Halt} (h : s.run P w = .halt x w') : w.drawn ≤ w'.drawn := by
  have := run_d (P := P) s w; rw [h] at this; exact this
theorem runT_d {P : Program} {α : Type} {s : Sem α} {w : World} {es es' : Array Event} {r : Result α} (h : s.runT P w es = (r, es')) : w.drawn ≤ dOf r := by
  have := run_d (P := P) s w
  rw [← Sem.runT_fst P s w es, h] at this
  exact this
theorem runT_ok {P : Program} {α : Type} {s : Sem α} {w w' : World} {es es' : Array Event} {v : α} (h : s.runT P w es = (.ok v w', es')) : w.drawn ≤ w'.drawn := runT_d h
theorem runT_halt {P : Program} {α : Type} {s : Sem α} {w w' : World} {es es' : Array Event} {x : Halt} (h : s.runT P w es = (.halt x w', es')) : w.drawn ≤ w'.drawn := runT_d h

def gD (n : Nat) : GStep → Prop
  | .go _ w _ => n ≤ w.drawn
  | .comm _ _ _ _ w _ => n ≤ w.drawn
  | .spawn _ _ w _ => n ≤ w.drawn
  | .count _ w _ => n ≤ w.drawn
  | .timer _ _ w _ => n ≤ w.drawn
  | .alone _ _ w _ => n ≤ w.drawn
  | .newcoro _ _ _ w _ => n ≤ w.drawn
  | .coroswitch _ _ _ w _ => n ≤ w.drawn
  | .collect _ w _ => n ≤ w.drawn
  | .watch _ w _ => n ≤ w.drawn
  | .ended _ _ _ => True
theorem gD_after {n : Nat} {es : Array Event} {g : GStep} (h : gD n g) : gD n (GStep.after es g) := by cases g <;> exact h
theorem gD_ite {n : Nat} {c : Prop} [Decidable c] {a b : GStep} (h : gD n a) (k : gD n b) : gD n (if c then a else b) := by split <;> assumption
theorem elim_d {n : Nat} {α : Type} {o : Option α} {a : GStep} {f : α → GStep} (h : gD n a) (k : ∀ x, gD n (f x)) : gD n (o.elim a f) := by cases o with
  | none => exact h
  | some x => exact k x
theorem runF_ok {P : Program} {α : Type} {s : Sem α} {w w' : World} {es : Array Event} {v : α} (h : (s.runT P w es).1 = .ok v w') : w.drawn ≤ w'.drawn := runT_ok (es' := (s.runT P w es).2) (Prod.ext h rfl)
theorem runF_halt {P : Program} {α : Type} {s : Sem α} {w w' : World} {es : Array Event} {v : Halt} (h : (s.runT P w es).1 = .halt v w') : w.drawn ≤ w'.drawn := runT_halt (es' := (s.runT P w es).2) (Prod.ext h rfl)
def sD (n : Nat) : Stepped → Prop
  | .next m => n ≤ m.world.drawn
  | _ => True
theorem endWith_d {n : Nat} {w : World} {fd : Nat} {t : ByteArray} {o : Outcome} : gD n (endWith w fd t o) := by
  unfold endWith
  dsimp only
  repeat' split
  all_goals exact trivial
theorem dieOf_d {n : Nat} {fr : Frame} {a : List ByteArray} {m : String} {b : Bool} {w : World} (h : n ≤ w.drawn) : gD n (dieOf fr a m b w) := h
theorem endThrow_d {n : Nat} {fr : Frame} {m : String} {w : World} (h : n ≤ w.drawn) : gD n (endThrow fr m w) := h
theorem endPrinting_d {P : Program} {n : Nat} {fr : Frame} {v : Value} {w : World} (h : n ≤ w.drawn) : gD n (endPrinting P fr v w) := by
  unfold endPrinting
  dsimp only
  repeat' split
  all_goals first | exact trivial | exact endThrow_d h
theorem endFatal_d {P : Program} {n : Nat} {fr : Frame} {cs : List Frame} {dy : Option Dying} {m : String} {w : World} (h : n ≤ w.drawn) : gD n (endFatal P fr cs dy m w) := by
  unfold endFatal
  dsimp only
  split
  · rename_i heq
    exact dieOf_d (Nat.le_trans h (run_ok heq))
  · exact trivial
  · exact trivial
theorem writeOn_d {P : Program} {n : Nat} {fr : Frame} {d : Dying} {f : Fatal} {w : World} (h : n ≤ w.drawn) : gD n (writeOn P fr d f w) := by
  unfold writeOn
  dsimp only
  split
  · exact trivial
  · split
    · rename_i heq; exact Nat.le_trans h (runT_ok heq)
    · rename_i heq; exact Nat.le_trans h (runT_halt heq)
    · exact trivial
    · exact trivial
theorem die_d {P : Program} {n : Nat} {fr : Frame} {d : Dying} {w : World} (h : n ≤ w.drawn) : gD n (die P fr d w) := by
  have hr : ∀ (s : Sem Next), n ≤ dOf (Sem.runT P s w #[]).1 := fun s => by rw [Sem.runT_fst]; exact Nat.le_trans h (run_d _ _)
  unfold die
  dsimp only
  split
  · exact writeOn_d h
  · split
    · split
      · exact h
      · exact endWith_d
    · split
      · exact h
      · split
        · rename_i heq; exact Nat.le_trans h (run_ok heq)
        · exact trivial
      · rename_i t recv name _
        refine gD_after ?_
        have h2 := hr (invoke (.fn (.method name) #[]) #[.iface t recv])
        generalize (Sem.runT P (invoke (.fn (.method name) #[]) #[.iface t recv]) w #[]).1 = r at h2 ⊢
        repeat' split
        all_goals first | exact trivial | exact h2 | exact endPrinting_d h2
      · exact trivial
theorem doReturn_d {P : Program} {n : Nat} {main : Bool} {fr : Frame} {cs : List Frame} {dy : Option Dying} {v : Value} {w : World} (h : n ≤ w.drawn) : gD n (doReturn P main fr cs dy v w) := by
  unfold doReturn
  dsimp only
  repeat' split
  all_goals first | exact trivial | exact h
theorem callDeferred_d {P : Program} {n : Nat} {fr : Frame} {cs : List Frame} {dy : Option Dying} {d : Deferred} {w : World} (h : n ≤ w.drawn) : gD n (callDeferred P fr cs dy d w) := by
  have hd : n ≤ dOf (Sem.runT P (invoke d.target d.args) w #[]).1 := by rw [Sem.runT_fst]; exact Nat.le_trans h (run_d _ _)
  unfold callDeferred
  dsimp only
  generalize (Sem.runT P (invoke d.target d.args) w #[]).1 = r at hd ⊢
  refine gD_ite trivial ?_
  refine gD_after ?_
  repeat' split
  all_goals first | exact trivial | exact hd | exact endFatal_d hd | exact endThrow_d hd
theorem unwind_d {P : Program} {n : Nat} {main : Bool} {fr : Frame} {cs : List Frame} {dy : Option Dying} {w : World} (h : n ≤ w.drawn) : gD n (unwind P main fr cs dy w) := by
  unfold unwind
  dsimp only
  split
  · refine gD_after ?_
    split
    · rename_i heq; exact Nat.le_trans h (runT_ok (es' := (Sem.runT P _ w #[]).2) (Prod.ext heq rfl))
    · exact trivial
  · exact callDeferred_d h
  · split
    · exact trivial
    · repeat' split
      all_goals first
        | exact trivial
        | exact h
        | exact endPrinting_d h
        | (rename_i heq; exact Nat.le_trans h (run_ok heq))
    · split
      · exact doReturn_d h
      · refine gD_after ?_
        split
        · rename_i heq; exact doReturn_d (Nat.le_trans h (runT_ok (es' := (Sem.runT P _ w #[]).2) (Prod.ext heq rfl)))
        · exact trivial
        · exact trivial
theorem early_d {P : Program} {n : Nat} {fr : Frame} {cs : List Frame} {dy : Option Dying} {g : Nat} {w : World} (h : n ≤ w.drawn) : gD n (early P fr cs dy g w) := by
  have hno : ∀ w : World, n ≤ w.drawn → gD n (match w.heap[g]? with
    | some (.pending c elem) => .go { frame := fr, callers := cs, status := .running, dying := dy } { w with heap := w.heap.setIfInBounds g (.cells c elem) }
    | _ => .ended (.stuck "early: the variable does not wait" (fr.pos P)) w) := fun w hw => by
    split
    · exact hw
    · exact trivial
  unfold early
  dsimp only
  refine gD_ite (hno w h) ?_
  split
  · exact trivial
  · refine gD_ite (hno w h) (gD_ite (hno w h) ?_)
    split
    · exact trivial
    · exact h
    · exact trivial
    · exact hno w h
    · refine gD_ite h (gD_ite (hno w h) ?_)
      split
      · rename_i heq; exact hno _ (Nat.le_trans h (run_ok heq))
      · rename_i heq; exact Nat.le_trans h (run_ok heq)
      · exact trivial
theorem apply_d {P : Program} {n : Nat} {fr : Frame} {cs : List Frame} {dy : Option Dying} {s : Sem Next} {w : World} {listen : Bool} (h : n ≤ w.drawn) : gD n (stepG.apply P listen fr cs dy s w) := by
  have hd : n ≤ dOf (if listen then s.runT P w #[] else (s.run P w, #[])).1 := by
    cases listen with
    | true => show n ≤ dOf (s.runT P w #[]).1; rw [Sem.runT_fst]; exact Nat.le_trans h (run_d _ _)
    | false => exact Nat.le_trans h (run_d _ _)
  unfold stepG.apply
  dsimp only
  generalize (if listen then s.runT P w #[] else (s.run P w, #[])).1 = r at hd ⊢
  refine gD_after ?_
  repeat' split
  all_goals first | exact trivial | exact hd | exact endFatal_d hd | exact endThrow_d hd | exact early_d hd
theorem oper_d {P : Program} {n : Nat} {fr : Frame} {cs : List Frame} {dy : Option Dying} {w : World} {listen : Bool} (h : n ≤ w.drawn) : gD n (stepG.oper P listen fr cs dy w) := by
  unfold stepG.oper
  repeat' split
  all_goals first | exact trivial | exact apply_d h
theorem exec_d {P : Program} {n : Nat} {main : Bool} {fr : Frame} {cs : List Frame} {dy : Option Dying} {w : World} {listen : Bool} (h : n ≤ w.drawn) : gD n (stepG.exec P main listen fr cs dy w) := by
  unfold stepG.exec
  dsimp only
  repeat' split
  all_goals first | exact trivial | exact h | exact apply_d h | exact oper_d h | skip
  all_goals first
    | (rename_i heq; exact gD_after (doReturn_d (Nat.le_trans h (runF_ok heq))))
    | exact elim_d h fun _ => h
    | exact elim_d trivial fun _ => h
    | (rename_i heq; exact elim_d (gD_after (doReturn_d (Nat.le_trans h (runF_ok heq)))) fun _ => h)
    | exact elim_d (gD_after trivial) fun _ => h
    | (rename_i heq; exact gD_after (apply_d (Nat.le_trans h (runF_ok heq))))
    | (rename_i heq; exact gD_after (Nat.le_trans h (runF_ok heq)))
    | (rename_i heq; exact gD_after (Nat.le_trans h (runF_halt heq)))
    | exact elim_d trivial fun _ => apply_d h
    | (rename_i heq; exact Nat.le_trans h (run_ok heq))
    | exact gD_after trivial
theorem stepG_d {P : Program} {n : Nat} {main : Bool} {g : Goroutine} {w : World} {listen : Bool} (h : n ≤ w.drawn) : gD n (stepG P main g w listen) := by
  unfold stepG
  dsimp only
  split
  · exact die_d h
  · exact exec_d h
  · exact unwind_d h

/-! ### The machine -/
theorem look_d {P : Program} {n : Nat} {gs : Array Goroutine} {rest : Rest} {w : World} (h : n ≤ w.drawn) : sD n (look P gs rest w) := by
  unfold look
  dsimp only
  split
  · split
    · exact trivial
    · split
      · exact trivial
      · split
        · rename_i heq; have h2 := run_ok heq; exact Nat.le_trans h h2
        · exact trivial
        · exact trivial
  · exact trivial
theorem waiting_d {rest : Rest} {cases : Array CommCase} {w w' : World} (h : waitingAt rest cases w = some w') : w'.drawn = w.drawn := by
  unfold waitingAt at h
  repeat' split at h
  all_goals first
    | (injection h with h; subst h; rfl)
    | cases h
theorem communicate_d {P : Program} {n : Nat} {rest : Rest} {gs : Array Goroutine} {i : Nat} {g : Goroutine} {cs : Array CommCase} {b : Bool} {shape : CommShape} {w : World} (h : n ≤ w.drawn) : sD n (communicate P rest gs i g cs b shape w).1 := by
  unfold communicate
  dsimp only
  split
  · exact trivial
  · split
    · split
      · split
        · rename_i heq; exact Nat.le_trans h (Nat.le_of_eq (waiting_d heq).symm)
        · exact trivial
      · exact h
    · split
      · exact trivial
      · rename_i heq
        have h2 := Nat.le_trans h (run_ok heq)
        clear heq
        repeat' split
        all_goals first
          | exact trivial
          | exact h2
          | (rename_i heq; exact Nat.le_trans h2 (run_halt heq))
          | (rename_i heq; have h3 := run_ok heq; exact Nat.le_trans h2 h3)
          | (rename_i heq _ _; have h3 := run_ok heq; exact Nat.le_trans h2 h3)
          | (rename_i heq _ _ _; have h3 := run_ok heq; exact Nat.le_trans h2 h3)
          | (rename_i heq _; have h3 := run_ok heq; exact Nat.le_trans h2 h3)
theorem drain_d (w : World) (c : Nat) : (drain w c).2.drawn = w.drawn := by
  unfold drain; split <;> rfl
theorem retime_d (m : Machine) (k : Nat) (t : Timer) (a b : Nat) : (retime m k t a b).2.world.drawn = m.world.drawn := by
  unfold retime
  dsimp only
  split
  · exact drain_d _ _
  · rfl
theorem timerOp_d {m m' : Machine} {op : TimerOp} {v : Value} (h : timerOp m op = .ok (v, m')) : m'.world.drawn = m.world.drawn := by
  have hopen : ∀ var m1, timerOp.opened m var = some m1 → m1.world.drawn = m.world.drawn := fun var m1 h => by
    unfold timerOp.opened at h
    repeat' split at h
    all_goals first
      | (injection h with h; subst h; rfl)
      | cases h
  have hnamed : ∀ (m1 : Machine) (var : Addr) (f : Nat → Timer → Value × Machine), (∀ k t, (f k t).2.world.drawn = m1.world.drawn) → timerOp.named m var f = .ok (v, m') → m'.world.drawn = m1.world.drawn := fun m1 var f hf h => by
    unfold timerOp.named at h
    split at h
    · rename_i k _
      injection h with h
      have h5 := hf k (m.rest.timers.getD k default)
      rw [h] at h5; exact h5
    · cases h
  unfold timerOp at h
  cases op with
  | new t =>
    dsimp only at h
    repeat' split at h
    all_goals first
      | (injection h with h; injection h with h1 h2; subst h2; rfl)
      | cases h
  | stop var => exact hnamed m var _ (fun k t => retime_d m k t _ _) h
  | reset var a b =>
    dsimp only at h
    split at h
    · rename_i m1 heq
      exact (hnamed m1 var _ (fun k t => retime_d m1 k t _ _) h).trans (hopen var m1 heq)
    · cases h
  | deadline a b c d =>
    dsimp only at h
    injection h with h; injection h with h1 h2; subst h2; rfl
theorem serve_d {P : Program} {n : Nat} {m : Machine} {k : Nat} (h : n ≤ m.world.drawn) : sD n (serve P m k) := by
  unfold serve
  dsimp only
  repeat' split
  all_goals first | exact trivial | exact h
theorem runTm_d {P : Program} {n : Nat} {m : Machine} {i : Nat} {listen : Bool} (h : n ≤ m.world.drawn) : sD n (runT P m i listen).1 := by
  have hg : gD n (stepG P (i == 0) (m.gs.swapAt! i { (default : Goroutine) with status := .finished }).1 m.world listen) := stepG_d h
  unfold runT
  dsimp only
  generalize stepG P (i == 0) (m.gs.swapAt! i { (default : Goroutine) with status := .finished }).1 m.world listen = s at hg ⊢
  cases s with
  | go g w es => exact hg
  | comm g cases blocking shape w es => exact communicate_d hg
  | spawn g child w es => exact hg
  | count g w es => dsimp only; split <;> first | exact trivial | exact hg
  | timer g op w es =>
    dsimp only
    split
    · rename_i heq; exact Nat.le_trans hg (Nat.le_of_eq (timerOp_d heq).symm)
    · exact hg
    · exact trivial
    · exact trivial
  | alone g on w es => exact hg
  | newcoro g c d w es => exact hg
  | coroswitch g c e w es =>
    dsimp only
    split
    · exact hg
    · exact hg
    · exact trivial
  | collect g w es => exact look_d hg
  | watch g w es => exact hg
  | ended o w es => exact trivial
def mvD (n : Nat) : Move → Prop
  | .goroutine m _ => n ≤ m.world.drawn
  | .machine s _ => sD n s
theorem askOn_d {P : Program} {n : Nat} {m : Machine} (h : n ≤ m.world.drawn) : mvD n (askOn P m) := by
  have hp : ∀ m : Machine, n ≤ m.world.drawn → ∀ rs : List Nat, mvD n (match (choose (.sched rs.length)).run P m.world with
    | .halt _ w => .machine (.ended (.stuck "sched" "") w)
    | .ok k world =>
      if rs.length ≤ 1 then .goroutine { m with world } (rs.getD k 0) else
      match (choose (.extern "sched.slice" 65536)).run P world with
      | .halt _ w => .machine (.ended (.stuck "sched.slice" "") w)
      | .ok n world => .goroutine { m with world, rest := { m.rest with slice := if n = 0 then none else some (rs.getD k 0, n) } } (rs.getD k 0)) := fun m h rs => by
    split
    · exact trivial
    · rename_i heq
      have h2 := Nat.le_trans h (run_ok heq)
      split
      · exact h2
      · split
        · exact trivial
        · rename_i heq2; have h3 := run_ok heq2; exact Nat.le_trans h2 h3
  unfold askOn
  dsimp only
  generalize hs : (if (due m.rest.timers m.world.os.mono).isEmpty = true then pure 0 else choose (.extern "timer.serve" ((due m.rest.timers m.world.os.mono).length + (if (runnable m.gs m.world.os.mono).isEmpty && (ahead m false).isNone then 0 else 1))) : Sem Nat) = sm
  split
  · exact trivial
  · rename_i wd heq
    have h2 := run_ok heq
    have h2 := Nat.le_trans h h2
    split
    · exact serve_d h2
    · split
      · split
        · exact h2
        · split
          · exact h2
          · split
            · exact trivial
            · exact trivial
      · split
        · exact hp { m with world := wd } h2 _
        · split
          · exact trivial
          · rename_i wd3 heq3; have h3 := run_ok heq3; exact hp { m with world := wd3 } (Nat.le_trans h2 h3) _
          · rename_i heq3; have h3 := run_ok heq3; exact Nat.le_trans h2 h3
          · rename_i heq3; have h3 := run_ok heq3; refine hp (Machine.advanceTo _ _) ?_ _; exact Nat.le_trans h2 h3
theorem ask_d {P : Program} {n : Nat} {m : Machine} (h : n ≤ m.world.drawn) : mvD n (ask P m) := by
  unfold ask
  split
  · split
    · exact trivial
    · rename_i heq
      have h2 := run_ok heq
      have hl := look_d (P := P) (gs := m.gs) (rest := m.rest) (Nat.le_trans h h2)
      split
      · rename_i heq2; rw [heq2] at hl; exact askOn_d hl
      · exact hl
    · rename_i heq
      have h2 := run_ok heq
      exact askOn_d (Nat.le_trans h h2)
  · exact askOn_d h
theorem move_d {P : Program} {n : Nat} {m : Machine} (h : n ≤ m.world.drawn) : mvD n (move P m) := by
  unfold move
  split
  · split
    · exact h
    · exact trivial
  · split
    · split
      · exact h
      · exact ask_d h
    · exact ask_d h
theorem step_d {P : Program} {n : Nat} {m : Machine} (h : n ≤ m.world.drawn) : sD n (step P m) := by
  have hm := move_d (P := P) h
  unfold step stepT
  split
  · rename_i heq; rw [heq] at hm; exact runTm_d hm
  · rename_i heq; rw [heq] at hm; exact hm
theorem runN_d {P : Program} {n : Nat} : ∀ (k : Nat) (m m' : Machine), n ≤ m.world.drawn → runN P k m = .next m' → n ≤ m'.world.drawn
  | 0, m, m', h, hr => by injection hr with hr; subst hr; exact h
  | k + 1, m, m', h, hr => by
    rw [runN] at hr
    have hs := step_d (P := P) h
    split at hr
    · rename_i heq; rw [heq] at hs; exact runN_d k _ m' hs hr
    · rename_i hne; exact absurd hr (hne m')
theorem calls_drawn {P : Program} {f : FuncId} {args : Array Value} {w : World} {R : Ending → World → Prop} (h : Calls P f args w R) : Calls P f args w fun e w' => R e w' ∧ ((∃ v, e = .returned v) → w.drawn ≤ w'.drawn) := by
  intro cs
  obtain ⟨e, w', fr, h1, h2, h3, h4⟩ := h cs
  refine ⟨e, w', fr, ⟨h1, ?_⟩, h2, h3, h4⟩
  rintro ⟨v, rfl⟩
  obtain ⟨k, hk⟩ := (show Steps P (lone (Frame.enter P f args .normal) cs w) (lone fr cs w') from h2)
  exact runN_d (n := w.drawn) k (lone (Frame.enter P f args .normal) cs w) (lone fr cs w') (Nat.le_refl _) hk
theorem calls_under {P : Program} {f : FuncId} {args : Array Value} {w : World} {v : Value} (h : Calls P f args w fun e w' => e = .returned v ∧ Below w.heap.size w w') : Calls P f args w fun e w' => e = .returned v ∧ Under w.heap.size w w' :=
  (calls_drawn h).mono fun e w' ⟨⟨h1, h2⟩, h3⟩ => ⟨h1, ⟨h2, h3 ⟨v, h1⟩⟩⟩
end Go.Proofs.Ytfghccppoilfhaa.V
