/-
  How often the tape was asked never falls, whatever the machine does. No condition.
  strings.Join, Split, slices.Sort at texts, laid on the shelf's contracts, in plain words (written by the kit's lay-plain.mjs). No condition.
  strings.Join, Split, IndexByte by value: Split's answer is a row of one's own. Conditions: texts not too long; the separator is one byte.
-/
import Derived.Test.YtgodclgcfpmloaaGreatDoorVd0
import Derived.Calls
import Derived.RunT
import Derived.Below
import Derived.Shelf.SlGeneric
import Derived.Shelf.SlLaysM
import Derived.Shelf.Strings.OnBuilder
import Derived.Shelf.Small.Strs
import Derived.Shelf.Strings.SplitCore
import Derived.Shelf.Strings.Search3
import Derived.Shelf.Strings.Count
import Derived.Shelf.Strings.Builder1
import Derived.Shelf.Strings.Builder2
import Derived.Ground.SlgmProg
import Derived.Test.YtgodclgcfpmloaaGreatDoorProg
import Derived.Test.YtgodclgcfpmloaaGreatDoorK2
import Derived.Test.YtgodclgcfpmloaaGreatDoorK3
import Derived.Lib.SplitLaws
namespace Go.Proofs.YtgodclgcfpmloaaGreatDoor.V
open Go Go.RowKit

def dOf {α : Type} : Result α → Nat
  | .ok _ w => w.drawn
  | .halt _ w => w.drawn
theorem run_d {P : Program} {α : Type} : ∀ (s : Sem α) (w : World), w.drawn ≤ dOf (s.run P w) := by
  intro s
  induction s with
  | pure a => intro w; exact Nat.le_refl _
  | load m a k ih =>
    intro w
    simp only [Sem.run]
    split
    · exact ih _ w
    · split
      · exact ih _ w
      · exact Nat.le_refl _
  | store m a u k ih =>
    intro w
    cases u <;> simp only [Sem.run] <;> first
      | exact Nat.le_refl _
      | (split
         · split
           · exact Nat.le_refl _
           · exact Nat.le_trans (Nat.le_refl w.drawn) (ih (w.setCell a _))
         · split
           · rename_i w1 l h1
             have := ih w1
             rw [farStore_mono h1] at this
             exact this
           · exact Nat.le_refl _)
  | new o k ih => intro w; simp only [Sem.run]; exact ih _ { w with heap := w.heap.push o }
  | shape r k ih => intro w; simp only [Sem.run]; exact ih _ _
  | freeze a n k ih => intro w; simp only [Sem.run]; have := ih (w.freeze a n); rw [freeze_drawn] at this; exact this
  | frozen a k ih => intro w; simp only [Sem.run]; exact ih _ _
  | getObj r k ih =>
    intro w
    simp only [Sem.run]
    split
    · exact Nat.le_refl _
    · exact ih _ _
    · exact Nat.le_refl _
  | setObj r o k ih =>
    intro w
    simp only [Sem.run]
    split
    · exact Nat.le_refl _
    · exact ih { w with heap := w.heap.setIfInBounds r o }
    · exact Nat.le_refl _
  | choose q k ih =>
    intro w
    simp only [Sem.run]
    split
    · exact ih _ _
    · exact Nat.le_trans (Nat.le_succ _) (ih _ { w with drawn := w.drawn + 1 })
  | sys c k ih => intro w; simp only [Sem.run]; exact Nat.le_trans (sys_mono w c) (ih _ _)
  | program k ih => intro w; simp only [Sem.run]; exact ih _ _
  | mark m k ih => intro w; simp only [Sem.run]; exact ih _
  | halt h => intro w; exact Nat.le_refl _
theorem run_ok {P : Program} {α : Type} {s : Sem α} {w w' : World} {v : α} (h : s.run P w = .ok v w') : w.drawn ≤ w'.drawn := by
  have := run_d (P := P) s w; rw [h] at this; exact this
theorem run_halt {P : Program} {α : Type} {s : Sem α} {w w' : World} {x : Halt} (h : s.run P w = .halt x w') : w.drawn ≤ w'.drawn := by
  have := run_d (P := P) s w; rw [h] at this; exact this
theorem runT_d {P : Program} {α : Type} {s : Sem α} {w : World} {es es' : Array Event} {r : Result α} (h : s.runT P w es = (r, es')) : w.drawn ≤ dOf r := by
  have := run_d (P := P) s w
  rw [← Sem.runT_fst P s w es, h] at this
  exact this
theorem runT_ok {P : Program} {α : Type} {s : Sem α} {w w' : World} {es es' : Array Event} {v : α} (h : s.runT P w es = (.ok v w', es')) : w.drawn ≤ w'.drawn := runT_d h
theorem runT_halt {P : Program} {α : Type} {s : Sem α} {w w' : World} {es es' : Array Event} {x : Halt} (h : s.runT P w es = (.halt x w', es')) : w.drawn ≤ w'.drawn := runT_d h

def gD (n : Nat) : GStep → Prop
  | .go _ w _ => n ≤ w.drawn
  | .comm _ _ _ _ w _ => n ≤ w.drawn
  | .spawn _ _ w _ => n ≤ w.drawn
  | .count _ w _ => n ≤ w.drawn
  | .timer _ _ w _ => n ≤ w.drawn
  | .alone _ _ w _ => n ≤ w.drawn
  | .newcoro _ _ _ w _ => n ≤ w.drawn
  | .coroswitch _ _ _ w _ => n ≤ w.drawn
  | .collect _ w _ => n ≤ w.drawn
  | .watch _ w _ => n ≤ w.drawn
  | .ended _ _ _ => True
theorem gD_after {n : Nat} {es : Array Event} {g : GStep} (h : gD n g) : gD n (GStep.after es g) := by cases g <;> exact h
theorem gD_ite {n : Nat} {c : Prop} [Decidable c] {a b : GStep} (h : gD n a) (k : gD n b) : gD n (if c then a else b) := by split <;> assumption
theorem elim_d {n : Nat} {α : Type} {o : Option α} {a : GStep} {f : α → GStep} (h : gD n a) (k : ∀ x, gD n (f x)) : gD n (o.elim a f) := by cases o with
  | none => exact h
  | some x => exact k x
theorem runF_ok {P : Program} {α : Type} {s : Sem α} {w w' : World} {es : Array Event} {v : α} (h : (s.runT P w es).1 = .ok v w') : w.drawn ≤ w'.drawn := runT_ok (es' := (s.runT P w es).2) (Prod.ext h rfl)
theorem runF_halt {P : Program} {α : Type} {s : Sem α} {w w' : World} {es : Array Event} {v : Halt} (h : (s.runT P w es).1 = .halt v w') : w.drawn ≤ w'.drawn := runT_halt (es' := (s.runT P w es).2) (Prod.ext h rfl)
def sD (n : Nat) : Stepped → Prop
  | .next m => n ≤ m.world.drawn
  | _ => True
theorem endWith_d {n : Nat} {w : World} {fd : Nat} {t : ByteArray} {o : Outcome} : gD n (endWith w fd t o) := by
  unfold endWith
  dsimp only
  repeat' split
  all_goals exact trivial
theorem dieOf_d {n : Nat} {fr : Frame} {a : List ByteArray} {m : String} {b : Bool} {w : World} (h : n ≤ w.drawn) : gD n (dieOf fr a m b w) := h
theorem endThrow_d {n : Nat} {fr : Frame} {m : String} {w : World} (h : n ≤ w.drawn) : gD n (endThrow fr m w) := h
theorem endPrinting_d {P : Program} {n : Nat} {fr : Frame} {v : Value} {w : World} (h : n ≤ w.drawn) : gD n (endPrinting P fr v w) := by
  unfold endPrinting
  dsimp only
  repeat' split
  all_goals first | exact trivial | exact endThrow_d h
theorem endFatal_d {P : Program} {n : Nat} {fr : Frame} {cs : List Frame} {dy : Option Dying} {m : String} {w : World} (h : n ≤ w.drawn) : gD n (endFatal P fr cs dy m w) := by
  unfold endFatal
  dsimp only
  split
  · rename_i heq
    exact dieOf_d (Nat.le_trans h (run_ok heq))
  · exact trivial
  · exact trivial
theorem writeOn_d {P : Program} {n : Nat} {fr : Frame} {d : Dying} {f : Fatal} {w : World} (h : n ≤ w.drawn) : gD n (writeOn P fr d f w) := by
  unfold writeOn
  dsimp only
  split
  · exact trivial
  · split
    · rename_i heq; exact Nat.le_trans h (runT_ok heq)
    · rename_i heq; exact Nat.le_trans h (runT_halt heq)
    · exact trivial
    · exact trivial
theorem die_d {P : Program} {n : Nat} {fr : Frame} {d : Dying} {w : World} (h : n ≤ w.drawn) : gD n (die P fr d w) := by
  have hr : ∀ (s : Sem Next), n ≤ dOf (Sem.runT P s w #[]).1 := fun s => by rw [Sem.runT_fst]; exact Nat.le_trans h (run_d _ _)
  unfold die
  dsimp only
  split
  · exact writeOn_d h
  · split
    · split
      · exact h
      · exact endWith_d
    · split
      · exact h
      · split
        · rename_i heq; exact Nat.le_trans h (run_ok heq)
        · exact trivial
      · rename_i t recv name _
        refine gD_after ?_
        have h2 := hr (invoke (.fn (.method name) #[]) #[.iface t recv])
        generalize (Sem.runT P (invoke (.fn (.method name) #[]) #[.iface t recv]) w #[]).1 = r at h2 ⊢
        repeat' split
        all_goals first | exact trivial | exact h2 | exact endPrinting_d h2
      · exact trivial
theorem doReturn_d {P : Program} {n : Nat} {main : Bool} {fr : Frame} {cs : List Frame} {dy : Option Dying} {v : Value} {w : World} (h : n ≤ w.drawn) : gD n (doReturn P main fr cs dy v w) := by
  unfold doReturn
  dsimp only
  repeat' split
  all_goals first | exact trivial | exact h
theorem callDeferred_d {P : Program} {n : Nat} {fr : Frame} {cs : List Frame} {dy : Option Dying} {d : Deferred} {w : World} (h : n ≤ w.drawn) : gD n (callDeferred P fr cs dy d w) := by
  have hd : n ≤ dOf (Sem.runT P (invoke d.target d.args) w #[]).1 := by rw [Sem.runT_fst]; exact Nat.le_trans h (run_d _ _)
  unfold callDeferred
  dsimp only
  generalize (Sem.runT P (invoke d.target d.args) w #[]).1 = r at hd ⊢
  refine gD_ite trivial ?_
  refine gD_after ?_
  repeat' split
  all_goals first | exact trivial | exact hd | exact endFatal_d hd | exact endThrow_d hd
theorem unwind_d {P : Program} {n : Nat} {main : Bool} {fr : Frame} {cs : List Frame} {dy : Option Dying} {w : World} (h : n ≤ w.drawn) : gD n (unwind P main fr cs dy w) := by
  unfold unwind
  dsimp only
  split
  · refine gD_after ?_
    split
    · rename_i heq; exact Nat.le_trans h (runT_ok (es' := (Sem.runT P _ w #[]).2) (Prod.ext heq rfl))
    · exact trivial
  · exact callDeferred_d h
  · split
    · exact trivial
    · repeat' split
      all_goals first
        | exact trivial
        | exact h
        | exact endPrinting_d h
        | (rename_i heq; exact Nat.le_trans h (run_ok heq))
    · split
      · exact doReturn_d h
      · refine gD_after ?_
        split
        · rename_i heq; exact doReturn_d (Nat.le_trans h (runT_ok (es' := (Sem.runT P _ w #[]).2) (Prod.ext heq rfl)))
        · exact trivial
        · exact trivial
theorem early_d {P : Program} {n : Nat} {fr : Frame} {cs : List Frame} {dy : Option Dying} {g : Nat} {w : World} (h : n ≤ w.drawn) : gD n (early P fr cs dy g w) := by
  have hno : ∀ w : World, n ≤ w.drawn → gD n (match w.heap[g]? with
    | some (.pending c elem) => .go { frame := fr, callers := cs, status := .running, dying := dy } { w with heap := w.heap.setIfInBounds g (.cells c elem) }
    | _ => .ended (.stuck "early: the variable does not wait" (fr.pos P)) w) := fun w hw => by
    split
    · exact hw
    · exact trivial
  unfold early
  dsimp only
  refine gD_ite (hno w h) ?_
  split
  · exact trivial
  · refine gD_ite (hno w h) (gD_ite (hno w h) ?_)
    split
    · exact trivial
    · exact h
    · exact trivial
    · exact hno w h
    · refine gD_ite h (gD_ite (hno w h) ?_)
      split
      · rename_i heq; exact hno _ (Nat.le_trans h (run_ok heq))
      · rename_i heq; exact Nat.le_trans h (run_ok heq)
      · exact trivial
theorem apply_d {P : Program} {n : Nat} {fr : Frame} {cs : List Frame} {dy : Option Dying} {s : Sem Next} {w : World} {listen : Bool} (h : n ≤ w.drawn) : gD n (stepG.apply P listen fr cs dy s w) := by
  have hd : n ≤ dOf (if listen then s.runT P w #[] else (s.run P w, #[])).1 := by
    cases listen with
    | true => show n ≤ dOf (s.runT P w #[]).1; rw [Sem.runT_fst]; exact Nat.le_trans h (run_d _ _)
    | false => exact Nat.le_trans h (run_d _ _)
  unfold stepG.apply
  dsimp only
  generalize (if listen then s.runT P w #[] else (s.run P w, #[])).1 = r at hd ⊢
  refine gD_after ?_
  repeat' split
  all_goals first | exact trivial | exact hd | exact endFatal_d hd | exact endThrow_d hd | exact early_d hd
theorem oper_d {P : Program} {n : Nat} {fr : Frame} {cs : List Frame} {dy : Option Dying} {w : World} {listen : Bool} (h : n ≤ w.drawn) : gD n (stepG.oper P listen fr cs dy w) := by
  unfold stepG.oper
  repeat' split
  all_goals first | exact trivial | exact apply_d h
theorem exec_d {P : Program} {n : Nat} {main : Bool} {fr : Frame} {cs : List Frame} {dy : Option Dying} {w : World} {listen : Bool} (h : n ≤ w.drawn) : gD n (stepG.exec P main listen fr cs dy w) := by
  unfold stepG.exec
  dsimp only
  repeat' split
  all_goals first | exact trivial | exact h | exact apply_d h | exact oper_d h | skip
  all_goals first
    | (rename_i heq; exact gD_after (doReturn_d (Nat.le_trans h (runF_ok heq))))
    | exact elim_d h fun _ => h
    | exact elim_d trivial fun _ => h
    | (rename_i heq; exact elim_d (gD_after (doReturn_d (Nat.le_trans h (runF_ok heq)))) fun _ => h)
    | exact elim_d (gD_after trivial) fun _ => h
    | (rename_i heq; exact gD_after (apply_d (Nat.le_trans h (runF_ok heq))))
    | (rename_i heq; exact gD_after (Nat.le_trans h (runF_ok heq)))
    | (rename_i heq; exact gD_after (Nat.le_trans h (runF_halt heq)))
    | exact elim_d trivial fun _ => apply_d h
    | (rename_i heq; exact Nat.le_trans h (run_ok heq))
    | exact gD_after trivial
theorem stepG_d {P : Program} {n : Nat} {main : Bool} {g : Goroutine} {w : World} {listen : Bool} (h : n ≤ w.drawn) : gD n (stepG P main g w listen) := by
  unfold stepG
  dsimp only
  split
  · exact die_d h
  · exact exec_d h
  · exact unwind_d h

/-! ### The machine -/
theorem look_d {P : Program} {n : Nat} {gs : Array Goroutine} {rest : Rest} {w : World} (h : n ≤ w.drawn) : sD n (look P gs rest w) := by
  unfold look
  dsimp only
  split
  · split
    · exact trivial
    · split
      · exact trivial
      · split
        · rename_i heq; have h2 := run_ok heq; exact Nat.le_trans h h2
        · exact trivial
        · exact trivial
  · exact trivial
theorem waiting_d {rest : Rest} {cases : Array CommCase} {w w' : World} (h : waitingAt rest cases w = some w') : w'.drawn = w.drawn := by
  unfold waitingAt at h
  repeat' split at h
  all_goals first
    | (injection h with h; subst h; rfl)
    | cases h
theorem communicate_d {P : Program} {n : Nat} {rest : Rest} {gs : Array Goroutine} {i : Nat} {g : Goroutine} {cs : Array CommCase} {b : Bool} {shape : CommShape} {w : World} (h : n ≤ w.drawn) : sD n (communicate P rest gs i g cs b shape w).1 := by
  unfold communicate
  dsimp only
  split
  · exact trivial
  · split
    · split
      · split
        · rename_i heq; exact Nat.le_trans h (Nat.le_of_eq (waiting_d heq).symm)
        · exact trivial
      · exact h
    · split
      · exact trivial
      · rename_i heq
        have h2 := Nat.le_trans h (run_ok heq)
        clear heq
        repeat' split
        all_goals first
          | exact trivial
          | exact h2
          | (rename_i heq; exact Nat.le_trans h2 (run_halt heq))
          | (rename_i heq; have h3 := run_ok heq; exact Nat.le_trans h2 h3)
          | (rename_i heq _ _; have h3 := run_ok heq; exact Nat.le_trans h2 h3)
          | (rename_i heq _ _ _; have h3 := run_ok heq; exact Nat.le_trans h2 h3)
          | (rename_i heq _; have h3 := run_ok heq; exact Nat.le_trans h2 h3)
theorem drain_d (w : World) (c : Nat) : (drain w c).2.drawn = w.drawn := by
  unfold drain; split <;> rfl
theorem retime_d (m : Machine) (k : Nat) (t : Timer) (a b : Nat) : (retime m k t a b).2.world.drawn = m.world.drawn := by
  unfold retime
  dsimp only
  split
  · exact drain_d _ _
  · rfl
theorem timerOp_d {m m' : Machine} {op : TimerOp} {v : Value} (h : timerOp m op = .ok (v, m')) : m'.world.drawn = m.world.drawn := by
  have hopen : ∀ var m1, timerOp.opened m var = some m1 → m1.world.drawn = m.world.drawn := fun var m1 h => by
    unfold timerOp.opened at h
    repeat' split at h
    all_goals first
      | (injection h with h; subst h; rfl)
      | cases h
  have hnamed : ∀ (m1 : Machine) (var : Addr) (f : Nat → Timer → Value × Machine), (∀ k t, (f k t).2.world.drawn = m1.world.drawn) → timerOp.named m var f = .ok (v, m') → m'.world.drawn = m1.world.drawn := fun m1 var f hf h => by
    unfold timerOp.named at h
    split at h
    · rename_i k _
      injection h with h
      have h5 := hf k (m.rest.timers.getD k default)
      rw [h] at h5; exact h5
    · cases h
  unfold timerOp at h
  cases op with
  | new t =>
    dsimp only at h
    repeat' split at h
    all_goals first
      | (injection h with h; injection h with h1 h2; subst h2; rfl)
      | cases h
  | stop var => exact hnamed m var _ (fun k t => retime_d m k t _ _) h
  | reset var a b =>
    dsimp only at h
    split at h
    · rename_i m1 heq
      exact (hnamed m1 var _ (fun k t => retime_d m1 k t _ _) h).trans (hopen var m1 heq)
    · cases h
  | deadline a b c d =>
    dsimp only at h
    injection h with h; injection h with h1 h2; subst h2; rfl
theorem serve_d {P : Program} {n : Nat} {m : Machine} {k : Nat} (h : n ≤ m.world.drawn) : sD n (serve P m k) := by
  unfold serve
  dsimp only
  repeat' split
  all_goals first | exact trivial | exact h
theorem runTm_d {P : Program} {n : Nat} {m : Machine} {i : Nat} {listen : Bool} (h : n ≤ m.world.drawn) : sD n (runT P m i listen).1 := by
  have hg : gD n (stepG P (i == 0) (m.gs.swapAt! i { (default : Goroutine) with status := .finished }).1 m.world listen) := stepG_d h
  unfold runT
  dsimp only
  generalize stepG P (i == 0) (m.gs.swapAt! i { (default : Goroutine) with status := .finished }).1 m.world listen = s at hg ⊢
  cases s with
  | go g w es => exact hg
  | comm g cases blocking shape w es => exact communicate_d hg
  | spawn g child w es => exact hg
  | count g w es => dsimp only; split <;> first | exact trivial | exact hg
  | timer g op w es =>
    dsimp only
    split
    · rename_i heq; exact Nat.le_trans hg (Nat.le_of_eq (timerOp_d heq).symm)
    · exact hg
    · exact trivial
    · exact trivial
  | alone g on w es => exact hg
  | newcoro g c d w es => exact hg
  | coroswitch g c e w es =>
    dsimp only
    split
    · exact hg
    · exact hg
    · exact trivial
  | collect g w es => exact look_d hg
  | watch g w es => exact hg
  | ended o w es => exact trivial
def mvD (n : Nat) : Move → Prop
  | .goroutine m _ => n ≤ m.world.drawn
  | .machine s _ => sD n s
theorem askOn_d {P : Program} {n : Nat} {m : Machine} (h : n ≤ m.world.drawn) : mvD n (askOn P m) := by
  have hp : ∀ m : Machine, n ≤ m.world.drawn → ∀ rs : List Nat, mvD n (match (choose (.sched rs.length)).run P m.world with
    | .halt _ w => .machine (.ended (.stuck "sched" "") w)
    | .ok k world =>
      if rs.length ≤ 1 then .goroutine { m with world } (rs.getD k 0) else
      match (choose (.extern "sched.slice" 65536)).run P world with
      | .halt _ w => .machine (.ended (.stuck "sched.slice" "") w)
      | .ok n world => .goroutine { m with world, rest := { m.rest with slice := if n = 0 then none else some (rs.getD k 0, n) } } (rs.getD k 0)) := fun m h rs => by
    split
    · exact trivial
    · rename_i heq
      have h2 := Nat.le_trans h (run_ok heq)
      split
      · exact h2
      · split
        · exact trivial
        · rename_i heq2; have h3 := run_ok heq2; exact Nat.le_trans h2 h3
  unfold askOn
  dsimp only
  generalize hs : (if (due m.rest.timers m.world.os.mono).isEmpty = true then pure 0 else choose (.extern "timer.serve" ((due m.rest.timers m.world.os.mono).length + (if (runnable m.gs m.world.os.mono).isEmpty && (ahead m false).isNone then 0 else 1))) : Sem Nat) = sm
  split
  · exact trivial
  · rename_i wd heq
    have h2 := run_ok heq
    have h2 := Nat.le_trans h h2
    split
    · exact serve_d h2
    · split
      · split
        · exact h2
        · split
          · exact h2
          · split
            · exact trivial
            · exact trivial
      · split
        · exact hp { m with world := wd } h2 _
        · split
          · exact trivial
          · rename_i wd3 heq3; have h3 := run_ok heq3; exact hp { m with world := wd3 } (Nat.le_trans h2 h3) _
          · rename_i heq3; have h3 := run_ok heq3; exact Nat.le_trans h2 h3
          · rename_i heq3; have h3 := run_ok heq3; refine hp (Machine.advanceTo _ _) ?_ _; exact Nat.le_trans h2 h3
theorem ask_d {P : Program} {n : Nat} {m : Machine} (h : n ≤ m.world.drawn) : mvD n (ask P m) := by
  unfold ask
  split
  · split
    · exact trivial
    · rename_i heq
      have h2 := run_ok heq
      have hl := look_d (P := P) (gs := m.gs) (rest := m.rest) (Nat.le_trans h h2)
      split
      · rename_i heq2; rw [heq2] at hl; exact askOn_d hl
      · exact hl
    · rename_i heq
      have h2 := run_ok heq
      exact askOn_d (Nat.le_trans h h2)
  · exact askOn_d h
theorem move_d {P : Program} {n : Nat} {m : Machine} (h : n ≤ m.world.drawn) : mvD n (move P m) := by
  unfold move
  split
  · split
    · exact h
    · exact trivial
  · split
    · split
      · exact h
      · exact ask_d h
    · exact ask_d h
theorem step_d {P : Program} {n : Nat} {m : Machine} (h : n ≤ m.world.drawn) : sD n (step P m) := by
  have hm := move_d (P := P) h
  unfold step stepT
  split
  · rename_i heq; rw [heq] at hm; exact runTm_d hm
  · rename_i heq; rw [heq] at hm; exact hm
theorem runN_d {P : Program} {n : Nat} : ∀ (k : Nat) (m m' : Machine), n ≤ m.world.drawn → runN P k m = .next m' → n ≤ m'.world.drawn
  | 0, m, m', h, hr => by injection hr with hr; subst hr; exact h
  | k + 1, m, m', h, hr => by
    rw [runN] at hr
    have hs := step_d (P := P) h
    split at hr
    · rename_i heq; rw [heq] at hs; exact runN_d k _ m' hs hr
    · rename_i hne; exact absurd hr (hne m')
theorem calls_drawn {P : Program} {f : FuncId} {args : Array Value} {w : World} {R : Ending → World → Prop} (h : Calls P f args w R) : Calls P f args w fun e w' => R e w' ∧ ((∃ v, e = .returned v) → w.drawn ≤ w'.drawn) := by
  intro cs
  obtain ⟨e, w', fr, h1, h2, h3, h4⟩ := h cs
  refine ⟨e, w', fr, ⟨h1, ?_⟩, h2, h3, h4⟩
  rintro ⟨v, rfl⟩
  obtain ⟨k, hk⟩ := (show Steps P (lone (Frame.enter P f args .normal) cs w) (lone fr cs w') from h2)
  exact runN_d (n := w.drawn) k (lone (Frame.enter P f args .normal) cs w) (lone fr cs w') (Nat.le_refl _) hk
theorem calls_under {P : Program} {f : FuncId} {args : Array Value} {w : World} {v : Value} (h : Calls P f args w fun e w' => e = .returned v ∧ Below w.heap.size w w') : Calls P f args w fun e w' => e = .returned v ∧ Under w.heap.size w w' :=
  (calls_drawn h).mono fun e w' ⟨⟨h1, h2⟩, h3⟩ => ⟨h1, ⟨h2, h3 ⟨v, h1⟩⟩⟩
end Go.Proofs.YtgodclgcfpmloaaGreatDoor.V
namespace Go.Proofs.YtgodclgcfpmloaaGreatDoor.V
open Go.Shelf
def lays156_ren : Go.Shelf.Ren := ⟨fun | 156 => 27 | 165 => 52 | 166 => 53 | 169 => 54 | 240 => 79 | 241 => 80 | 276 => 102 | 277 => 103 | n => n, fun | 31 => 27 | 9 => 9 | 3 => 3 | 4 => 4 | 0 => 0 | 20 => 20 | 72 => 87 | 76 => 91 | 70 => 85 | 37 => 23 | 75 => 90 | 127 => 130 | 164 => 149 | 5 => 5 | 80 => 93 | n => n, fun | n => n⟩
theorem lays156 : Go.Proofs.Lays.n156 Tryz.prog lays156_ren := {
  mixed := by kernel_rfl
  f156 := Tryz.func27.trans (congrArg some (by kernel_rfl))
  f165 := Tryz.func52.trans (congrArg some (by kernel_rfl))
  f166 := Tryz.func53.trans (congrArg some (by kernel_rfl))
  f169 := Tryz.func54.trans (congrArg some (by kernel_rfl))
  f240 := Tryz.func79.trans (congrArg some (by kernel_rfl))
  f241 := Tryz.func80.trans (congrArg some (by kernel_rfl))
  f276 := Tryz.func102.trans (congrArg some (by kernel_rfl))
  f277 := Tryz.func103.trans (congrArg some (by kernel_rfl))
  t0 := Tryz.underlying0
  a0 := Tryz.isAgg0
  z0 := Tryz.sizeOf0
  v0 := Tryz.zeroValue0
  t3 := Tryz.underlying3
  a3 := Tryz.isAgg3
  z3 := Tryz.sizeOf3
  v3 := Tryz.zeroValue3
  t4 := Tryz.underlying4
  a4 := Tryz.isAgg4
  z4 := Tryz.sizeOf4
  v4 := Tryz.zeroValue4
  t9 := Tryz.underlying9
  a9 := Tryz.isAgg9
  z9 := Tryz.sizeOf9
  v9 := Tryz.zeroValue9
  t20 := Tryz.underlying20
  a20 := Tryz.isAgg20
  z20 := Tryz.sizeOf20
  v20 := Tryz.zeroValue20
  t31 := Tryz.underlying27
  a31 := Tryz.isAgg27
  z31 := Tryz.sizeOf27
  v31 := Tryz.zeroValue27
  t37 := Tryz.underlying23
  a37 := Tryz.isAgg23
  z37 := Tryz.sizeOf23
  v37 := Tryz.zeroValue23
  t70 := Tryz.underlying85
  a70 := Tryz.isAgg85
  z70 := Tryz.sizeOf85
  v70 := Tryz.zeroValue85
  t72 := Tryz.underlying87
  a72 := Tryz.isAgg87
  z72 := Tryz.sizeOf87
  v72 := Tryz.zeroValue87
  t75 := Tryz.underlying90
  a75 := Tryz.isAgg90
  z75 := Tryz.sizeOf90
  v75 := Tryz.zeroValue90
  t76 := Tryz.underlying91
  a76 := Tryz.isAgg91
  z76 := Tryz.sizeOf91
  v76 := Tryz.zeroValue91
  t127 := Tryz.underlying130
  a127 := Tryz.isAgg130
  z127 := Tryz.sizeOf130
  v127 := Tryz.zeroValue130
  t164 := Tryz.underlying149
  a164 := Tryz.isAgg149
  z164 := Tryz.sizeOf149
  v164 := Tryz.zeroValue149 }
def lays221_ren : Go.Shelf.Ren := ⟨fun | 221 => 40 | 268 => 70 | 138 => 71 | 143 => 72 | 195 => 97 | 197 => 98 | 218 => 99 | 219 => 100 | 260 => 114 | 217 => 115 | 225 => 116 | 224 => 117 | 267 => 118 | 266 => 125 | 314 => 126 | n => n, fun | 9 => 9 | 3 => 3 | 31 => 27 | 4 => 4 | 0 => 0 | 105 => 143 | 21 => 21 | 5 => 5 | 46 => 59 | 119 => 166 | 139 => 169 | 138 => 168 | 146 => 170 | 51 => 34 | n => n, fun | 1 => 0 | 3 => 1 | 4 => 2 | n => n⟩
theorem lays221 : Go.Proofs.Lays.n221 Tryz.prog lays221_ren := {
  mixed := by kernel_rfl
  f138 := Tryz.func71.trans (congrArg some (by kernel_rfl))
  f143 := Tryz.func72.trans (congrArg some (by kernel_rfl))
  f195 := Tryz.func97.trans (congrArg some (by kernel_rfl))
  f197 := Tryz.func98.trans (congrArg some (by kernel_rfl))
  f217 := Tryz.func115.trans (congrArg some (by kernel_rfl))
  f218 := Tryz.func99.trans (congrArg some (by kernel_rfl))
  f219 := Tryz.func100.trans (congrArg some (by kernel_rfl))
  f221 := Tryz.func40.trans (congrArg some (by kernel_rfl))
  f224 := Tryz.func117.trans (congrArg some (by kernel_rfl))
  f225 := Tryz.func116.trans (congrArg some (by kernel_rfl))
  f260 := Tryz.func114.trans (congrArg some (by kernel_rfl))
  f266 := Tryz.func125.trans (congrArg some (by kernel_rfl))
  f267 := Tryz.func118.trans (congrArg some (by kernel_rfl))
  f268 := Tryz.func70.trans (congrArg some (by kernel_rfl))
  f314 := Tryz.func126.trans (congrArg some (by kernel_rfl))
  t0 := Tryz.underlying0
  a0 := Tryz.isAgg0
  z0 := Tryz.sizeOf0
  v0 := Tryz.zeroValue0
  t3 := Tryz.underlying3
  a3 := Tryz.isAgg3
  z3 := Tryz.sizeOf3
  v3 := Tryz.zeroValue3
  t4 := Tryz.underlying4
  a4 := Tryz.isAgg4
  z4 := Tryz.sizeOf4
  v4 := Tryz.zeroValue4
  t5 := Tryz.underlying5
  a5 := Tryz.isAgg5
  z5 := Tryz.sizeOf5
  v5 := Tryz.zeroValue5
  t9 := Tryz.underlying9
  a9 := Tryz.isAgg9
  z9 := Tryz.sizeOf9
  v9 := Tryz.zeroValue9
  t21 := Tryz.underlying21
  a21 := Tryz.isAgg21
  z21 := Tryz.sizeOf21
  v21 := Tryz.zeroValue21
  t31 := Tryz.underlying27
  a31 := Tryz.isAgg27
  z31 := Tryz.sizeOf27
  v31 := Tryz.zeroValue27
  t46 := Tryz.underlying59
  a46 := Tryz.isAgg59
  z46 := Tryz.sizeOf59
  v46 := Tryz.zeroValue59
  t51 := Tryz.underlying34
  a51 := Tryz.isAgg34
  z51 := Tryz.sizeOf34
  v51 := Tryz.zeroValue34
  t105 := Tryz.underlying143
  a105 := Tryz.isAgg143
  z105 := Tryz.sizeOf143
  v105 := Tryz.zeroValue143
  t119 := Tryz.underlying166
  a119 := Tryz.isAgg166
  z119 := Tryz.sizeOf166
  t138 := Tryz.underlying168
  a138 := Tryz.isAgg168
  z138 := Tryz.sizeOf168
  v138 := Tryz.zeroValue168
  t139 := Tryz.underlying169
  a139 := Tryz.isAgg169
  z139 := Tryz.sizeOf169
  v139 := Tryz.zeroValue169
  t146 := Tryz.underlying170
  a146 := Tryz.isAgg170
  z146 := Tryz.sizeOf170
  v146 := Tryz.zeroValue170
  g1 := by kernel_rfl
  g3 := by kernel_rfl
  g4 := by kernel_rfl }
def sortSL_ren : Go.Shelf.Ren := ⟨fun | 6 => 12 | 8 => 26 | 9 => 25 | 19 => 50 | 20 => 51 | 21 => 41 | 22 => 42 | 23 => 43 | 24 => 44 | 25 => 45 | 26 => 46 | 27 => 47 | 28 => 48 | 29 => 49 | 36 => 73 | 31 => 74 | 32 => 75 | 37 => 76 | 38 => 77 | 39 => 78 | 41 => 101 | n => n, fun | 27 => 27 | 29 => 9 | 3 => 3 | 32 => 59 | 26 => 27 | 0 => 0 | 44 => 34 | 46 => 84 | 4 => 4 | 36 => 75 | 35 => 74 | 41 => 80 | 5 => 5 | 9 => 9 | 53 => 123 | 57 => 127 | 63 => 146 | 64 => 147 | n => n, fun | n => n⟩
theorem sortSL : Go.Proofs.SlLaysM.n6 Tryz.prog sortSL_ren := {
  mixed := by kernel_rfl
  f6 := ⟨Tryz.f12.name, by decide, Tryz.func12.trans (congrArg some (by kernel_rfl))⟩
  f8 := Tryz.func26.trans (congrArg some (by kernel_rfl))
  f9 := ⟨Tryz.f25.name, by decide, Tryz.func25.trans (congrArg some (by kernel_rfl))⟩
  f19 := Tryz.func50.trans (congrArg some (by kernel_rfl))
  f20 := Tryz.func51.trans (congrArg some (by kernel_rfl))
  f21 := ⟨Tryz.f41.name, by decide, Tryz.func41.trans (congrArg some (by kernel_rfl))⟩
  f22 := ⟨Tryz.f42.name, by decide, Tryz.func42.trans (congrArg some (by kernel_rfl))⟩
  f23 := ⟨Tryz.f43.name, by decide, Tryz.func43.trans (congrArg some (by kernel_rfl))⟩
  f24 := ⟨Tryz.f44.name, by decide, Tryz.func44.trans (congrArg some (by kernel_rfl))⟩
  f25 := ⟨Tryz.f45.name, by decide, Tryz.func45.trans (congrArg some (by kernel_rfl))⟩
  f26 := ⟨Tryz.f46.name, by decide, Tryz.func46.trans (congrArg some (by kernel_rfl))⟩
  f27 := ⟨Tryz.f47.name, by decide, Tryz.func47.trans (congrArg some (by kernel_rfl))⟩
  f28 := ⟨Tryz.f48.name, by decide, Tryz.func48.trans (congrArg some (by kernel_rfl))⟩
  f29 := ⟨Tryz.f49.name, by decide, Tryz.func49.trans (congrArg some (by kernel_rfl))⟩
  f31 := Tryz.func74.trans (congrArg some (by kernel_rfl))
  f32 := Tryz.func75.trans (congrArg some (by kernel_rfl))
  f36 := ⟨Tryz.f73.name, by decide, Tryz.func73.trans (congrArg some (by kernel_rfl))⟩
  f37 := ⟨Tryz.f76.name, by decide, Tryz.func76.trans (congrArg some (by kernel_rfl))⟩
  f38 := ⟨Tryz.f77.name, by decide, Tryz.func77.trans (congrArg some (by kernel_rfl))⟩
  f39 := ⟨Tryz.f78.name, by decide, Tryz.func78.trans (congrArg some (by kernel_rfl))⟩
  f41 := ⟨Tryz.f101.name, by decide, Tryz.func101.trans (congrArg some (by kernel_rfl))⟩
  t0 := Tryz.underlying0
  a0 := Tryz.isAgg0
  z0 := Tryz.sizeOf0
  v0 := Tryz.zeroValue0
  t3 := Tryz.underlying3
  a3 := Tryz.isAgg3
  z3 := Tryz.sizeOf3
  v3 := Tryz.zeroValue3
  t4 := Tryz.underlying4
  a4 := Tryz.isAgg4
  z4 := Tryz.sizeOf4
  v4 := Tryz.zeroValue4
  t5 := Tryz.underlying5
  a5 := Tryz.isAgg5
  z5 := Tryz.sizeOf5
  v5 := Tryz.zeroValue5
  t9 := Tryz.underlying9
  a9 := Tryz.isAgg9
  z9 := Tryz.sizeOf9
  v9 := Tryz.zeroValue9
  t26 := Tryz.underlying27
  a26 := Tryz.isAgg27
  z26 := Tryz.sizeOf27
  v26 := Tryz.zeroValue27
  t27 := Tryz.underlying27
  a27 := Tryz.isAgg27
  z27 := Tryz.sizeOf27
  v27 := Tryz.zeroValue27
  t29 := Tryz.underlying9
  a29 := Tryz.isAgg9
  z29 := Tryz.sizeOf9
  v29 := Tryz.zeroValue9
  t32 := Tryz.underlying59
  a32 := Tryz.isAgg59
  z32 := Tryz.sizeOf59
  v32 := Tryz.zeroValue59
  t35 := Tryz.underlying74
  a35 := Tryz.isAgg74
  z35 := Tryz.sizeOf74
  v35 := Tryz.zeroValue74
  t36 := Tryz.underlying75
  a36 := Tryz.isAgg75
  z36 := Tryz.sizeOf75
  v36 := Tryz.zeroValue75
  t41 := Tryz.underlying80
  a41 := Tryz.isAgg80
  z41 := Tryz.sizeOf80
  v41 := Tryz.zeroValue80
  t44 := Tryz.underlying34
  a44 := Tryz.isAgg34
  z44 := Tryz.sizeOf34
  v44 := Tryz.zeroValue34
  t46 := Tryz.underlying84
  a46 := Tryz.isAgg84
  z46 := Tryz.sizeOf84
  v46 := Tryz.zeroValue84
  t53 := Tryz.underlying123
  a53 := Tryz.isAgg123
  z53 := Tryz.sizeOf123
  v53 := Tryz.zeroValue123
  t57 := Tryz.underlying127
  a57 := Tryz.isAgg127
  z57 := Tryz.sizeOf127
  v57 := Tryz.zeroValue127
  t63 := Tryz.underlying146
  a63 := Tryz.isAgg146
  z63 := Tryz.sizeOf146
  v63 := Tryz.zeroValue146
  t64 := Tryz.underlying147
  a64 := Tryz.isAgg147
  z64 := Tryz.sizeOf147
  v64 := Tryz.zeroValue147 }
end Go.Proofs.YtgodclgcfpmloaaGreatDoor.V
namespace Go.Proofs.YtgodclgcfpmloaaGreatDoor.V
open Go.RowKit Go.Shelf Go.Lib
attribute [local irreducible] OpVC

theorem Builder_Extra_156 : Builder.Extra Tryz.prog lays156_ren := {
  sizeBuilder := by kernel_rfl
  liesBuilder := by kernel_rfl
  t5 := Tryz.underlying5
  a5 := Tryz.isAgg5
  z5 := Tryz.sizeOf5
  v5 := Tryz.zeroValue5
  infoByte := by kernel_rfl
  cellsByte := by kernel_rfl
  sizeByte := by kernel_rfl
  neB5 := by decide }

theorem interc_map {α β : Type} (f : α → β) (sep : List α) : ∀ L : List (List α), (sep.map f).intercalate (L.map (List.map f)) = (sep.intercalate L).map f
  | [] => rfl
  | [x] => by simp [List.intercalate]
  | x :: y :: r => by
    have := interc_map f sep (y :: r)
    simp only [List.intercalate, List.map_cons, List.intersperse, List.flatten_cons, List.map_append] at this ⊢
    rw [this]
theorem map_data (L : List (List Nat)) : (L.map strB).map (fun b => b.data.toList) = L.map (List.map UInt8.ofNat) := by
  rw [List.map_map]; rfl
theorem join_c : JoinC := by
  intro L sep hL hs hlen hjl
  refine ⟨⟨_, Tryz.func27, rfl⟩, fun w B args' hB hr => ?_⟩
  match args', hr with
  | [], hr => have := hr.1; simp at this
  | [_], hr => have := hr.1; simp at this
  | _ :: _ :: _ :: _, hr => have := hr.1; simp at this
  | [v0, v1], hr =>
  have h0 := hr.2 0 _ v0 rfl rfl
  have h1 := rep_v (hr.2 1 (strD sep) v1 rfl rfl)
  subst h1
  have hval : Lib.join ((L.map strB).map (fun b => b.data.toList)) (strB sep).data.toList = (joinN sep L).map UInt8.ofNat := by
    rw [map_data, strB_data]; exact interc_map _ _ _
  cases h0 with
  | rows b o g hc hp hl hcell hrep =>
    rename_i p c
    cases L with
    | nil =>
      refine (calls_under ((Any.strings_Join_none lays156 Builder_Extra_156 p c (strB sep) w).mono fun e w' ⟨h1, h2⟩ => ⟨h1, h2 ▸ Below.refl _ _⟩)).mono fun e w' ⟨h1, h2⟩ => ?_
      exact ⟨_, _, rfl, h1, h2, .v⟩
    | cons x r =>
      obtain ⟨hp1, hp2⟩ := hp (by simp)
      subst hp1
      have hcells : ∀ (j : Nat) y, ((x :: r).map strB)[j]? = some y → w.cell? ⟨b, o + j, none⟩ = some (.string y) := fun j y hy => by
        rw [List.getElem?_map] at hy
        cases hq : (x :: r)[j]? with
        | none => rw [hq] at hy; cases hy
        | some z =>
          rw [hq] at hy
          simp only [Option.map_some, Option.some.injEq] at hy
          subst hy
          have h4 := hcell j z 0 (strD z) hq rfl
          have h5 := rep_v (hrep j z 0 (strD z) hq rfl)
          rw [h5, Nat.mul_one, Nat.add_zero] at h4
          exact h4
      have hll : ((x :: r).map strB).length = (x :: r).length := by simp
      have hcall := Any.strings_Join lays156 Builder_Extra_156 b o c ((x :: r).map strB) (strB sep) w hcells (hB b hp2) (by rw [hll]; omega) (by rw [hll]; exact hc) (by rw [hval, List.length_map]; omega)
      rw [hll, hval] at hcall
      exact (calls_under hcall).mono fun e w' ⟨h1, h2⟩ => ⟨_, _, rfl, h1, h2, .v⟩

/-! ### Split -/
theorem isPre (c x : UInt8) (l : List UInt8) : [c].isPrefixOf (x :: l) = (c == x) := by simp [List.isPrefixOf]
theorem split_eq {c : Nat} (hc : c < 256) : ∀ l : List Nat, Byt l → splitK [UInt8.ofNat c] 0 ((l.map UInt8.ofNat).count (UInt8.ofNat c)) (l.map UInt8.ofNat) = (spl c l).map (List.map UInt8.ofNat)
  | [], _ => rfl
  | x :: l, h => by
    have ih := split_eq hc l h.tail
    have hx := h.head
    rw [List.map_cons]
    by_cases hxc : x = c
    · subst hxc
      rw [List.count_cons_self, splitK]
      have hi : index (UInt8.ofNat x :: l.map UInt8.ofNat) [UInt8.ofNat x] = 0 := by
        rw [index, isPre]; simp
      rw [hi, spl, splB, eqC_self]
      simp only []
      rw [List.map_cons, ← ih]
      rfl
    · have hne : UInt8.ofNat x ≠ UInt8.ofNat c := fun e => hxc (ofNat_inj hx hc e)
      rw [List.count_cons_of_ne hne, spl, splB, show eqC c x = false from decide_eq_false hxc]
      obtain ⟨p, r, hpr⟩ : ∃ p r, spl c l = p :: r := by
        cases hq : spl c l with
        | nil => exact absurd hq (splB_ne _ l)
        | cons p r => exact ⟨p, r, rfl⟩
      rw [spl] at hpr
      rw [spl, hpr] at ih
      rw [hpr]
      simp only [List.map_cons] at ih ⊢
      cases hk : (l.map UInt8.ofNat).count (UInt8.ofNat c) with
      | zero =>
        rw [hk, splitK] at ih
        injection ih with i1 i2
        rw [splitK, ← i1, ← i2]
      | succ k =>
        rw [hk, splitK] at ih
        rw [splitK]
        have hi : index (UInt8.ofNat x :: l.map UInt8.ofNat) [UInt8.ofNat c] = if index (l.map UInt8.ofNat) [UInt8.ofNat c] == -1 then -1 else index (l.map UInt8.ofNat) [UInt8.ofNat c] + 1 := by
          rw [index, isPre, if_neg (by simp; exact fun e => hne e.symm)]
        rw [hi]
        have hge := index_ge (l.map UInt8.ofNat) [UInt8.ofNat c]
        by_cases hm : index (l.map UInt8.ofNat) [UInt8.ofNat c] = -1
        · rw [hm] at ih ⊢
          simp only [beq_self_eq_true, if_true] at ih ⊢
          injection ih with i1 i2
          rw [← i1, ← i2]
        · have e1 : (index (l.map UInt8.ofNat) [UInt8.ofNat c] == -1) = false := beq_eq_false_iff_ne.2 hm
          have e2 : (index (l.map UInt8.ofNat) [UInt8.ofNat c] + 1 == -1) = false := beq_eq_false_iff_ne.2 (by omega)
          rw [e1] at ih ⊢
          simp only [Bool.false_eq_true, if_false] at ih ⊢
          rw [e2]
          simp only [Bool.false_eq_true, if_false]
          injection ih with i1 i2
          obtain ⟨i, hi⟩ := Int.eq_ofNat_of_zero_le (show 0 ≤ index (l.map UInt8.ofNat) [UInt8.ofNat c] by omega)
          rw [hi] at i1 i2 ⊢
          rw [show ((i : Int) + 1).toNat + 0 = i + 1 by omega, show ((i : Int) + 1).toNat + ([UInt8.ofNat c] : List UInt8).length = (i + 1) + 1 from (by show ((i : Int) + 1).toNat + 1 = _; omega)]
          rw [← i1, ← i2]
          simp

theorem gensplit_one (s : ByteArray) (c : UInt8) (w : World) (hs : s.size < 4294967281) :
    Calls Tryz.prog 40 #[.string s, .string ⟨#[c]⟩, .int .i64 (0 : Nat), .int .i64 (-1)] w fun e w' =>
      e = .returned (.slice (some ⟨w.heap.size, 0, none⟩) (Lib.splitB ⟨#[c]⟩ 0 (Lib.countB s ⟨#[c]⟩) s).length (Lib.countB s ⟨#[c]⟩ + 1)) ∧ w' = w.alloc (.cells (Lib.cellsOf (Lib.splitB ⟨#[c]⟩ 0 (Lib.countB s ⟨#[c]⟩) s) (Lib.countB s ⟨#[c]⟩ + 1)) 9) := by
  have hle := Lib.countB_le ⟨#[c]⟩ (Nat.le_refl _) s.size s (Nat.le_refl _)
  have hidx : ∀ x : ByteArray, Lib.indexB x ⟨#[c]⟩ = Lib.indexByte x.data.toList c := fun x => Lib.index_one x.data.toList c
  have hcnt : Lib.countB s ⟨#[c]⟩ = Lib.countByte s.data.toList c := Lib.count_one c s.data.toList
  have h := Any.strings_genSplit_core lays221 (by kernel_rfl) s ⟨#[c]⟩ 0 (-1) (Lib.countB s ⟨#[c]⟩ + 1) w hs (Nat.le_refl _) (Nat.zero_le _)
    (fun x cc hx => (Any.strings_Index_one { lays221 with } x c _).mono fun e w' ⟨h1, h2⟩ => ⟨by rw [h1, hidx], h2⟩)
    ((Any.strings_Count_one { lays221 with } s c w).mono fun e w' ⟨h1, h2⟩ => ⟨by rw [h1, hcnt], h2⟩)
    (by decide) (by decide) (by rw [if_pos (by decide)]; omega)
  rw [Nat.add_sub_cancel] at h
  exact h
theorem data_inj : ∀ a b : List ByteArray, a.map (fun b => b.data.toList) = b.map (fun b => b.data.toList) → a = b
  | [], [], _ => rfl
  | [], _ :: _, h => by simp at h
  | _ :: _, [], h => by simp at h
  | x :: a, y :: b, h => by
    simp only [List.map_cons, List.cons.injEq] at h
    rw [strB_ext h.1, data_inj a b h.2]
theorem gensplit_at (l : List Nat) (hl : Byt l) (hlen : l.length ≤ 1000000) {c : Nat} (hc : c < 256) (w : World) :
    Calls Tryz.prog 40 #[.string (strB l), .string (strB [c]), .int .i64 (0 : Nat), .int .i64 (-1)] w fun e w' =>
      e = .returned (.slice (some ⟨w.heap.size, 0, none⟩) (spl c l).length (spl c l).length) ∧ w' = w.alloc (.cells ((spl c l).map fun x => Value.string (strB x)).toArray 9) := by
  have cc := gensplit_one (strB l) (UInt8.ofNat c) w (by rw [strB_size]; omega)
  have hn := Lib.splitB_all ⟨#[UInt8.ofNat c]⟩ (Nat.le_refl _) 0 _ (strB l) rfl
  have e2 : Lib.cellsOf (Lib.splitB ⟨#[UInt8.ofNat c]⟩ 0 (Lib.countB (strB l) ⟨#[UInt8.ofNat c]⟩) (strB l)) (Lib.countB (strB l) ⟨#[UInt8.ofNat c]⟩ + 1) = ((Lib.splitB ⟨#[UInt8.ofNat c]⟩ 0 (Lib.countB (strB l) ⟨#[UInt8.ofNat c]⟩) (strB l)).map Value.string).toArray := by
    have := Lib.cellsOf_full (Lib.splitB ⟨#[UInt8.ofNat c]⟩ 0 (Lib.countB (strB l) ⟨#[UInt8.ofNat c]⟩) (strB l))
    rwa [hn] at this
  rw [e2] at cc
  have hsp : Lib.splitB ⟨#[UInt8.ofNat c]⟩ 0 (Lib.countB (strB l) ⟨#[UInt8.ofNat c]⟩) (strB l) = (spl c l).map strB := by
    have h5 := Lib.splitB_data ⟨#[UInt8.ofNat c]⟩ 0 (Lib.countB (strB l) ⟨#[UInt8.ofNat c]⟩) (strB l)
    have h6 : Lib.countB (strB l) ⟨#[UInt8.ofNat c]⟩ = (l.map UInt8.ofNat).count (UInt8.ofNat c) := Lib.count_one (UInt8.ofNat c) (l.map UInt8.ofNat)
    rw [h6] at h5
    have h7 := h5.trans (split_eq hc l hl)
    rw [← map_data] at h7
    rw [h6]
    exact data_inj _ _ h7
  rw [hsp] at cc hn
  rw [List.length_map] at hn
  rw [List.map_map, List.length_map, ← hn] at cc
  exact cc

section
variable {E : Env} {s : St} {σ : Nat → Nat} {τ : Nat → Value} {a : Act} {w : World}
theorem strRow_state (hs : SR E s σ τ a w) (L : List (List Nat)) (hl : L.length ≤ 2000000) :
    ∃ τ', SR E ⟨s.F, (s.nx, .grow (List Nat) 9 1 strE L) :: s.H, s.nx + 1, s.G⟩ σ τ' a (w.alloc (.cells (L.map fun x => Value.string (strB x)).toArray 9)) ∧ τ' s.nx = .slice (some ⟨w.heap.size, 0, none⟩) L.length L.length := by
  have hml : (maxLen : Nat) = 9223372036854775807 := by decide
  have hown : (w.alloc (.cells (L.map fun x => Value.string (strB x)).toArray 9)).ownsRow 0 9 1 (.slice (some ⟨w.heap.size, 0, none⟩) L.length L.length) L.length (L.map fun x => Value.string (strB x)) := by
    refine ⟨by simp, .inr ⟨w.heap.size, _, _, rfl, Nat.zero_le _, heap_alloc_new w _, Nat.le_refl _, by rw [hml]; omega, by simp, ?_⟩⟩
    exact List.take_of_length_le (by simp)
  exact grow_state (dst := .v (.slice none 0 0)) (u := .slice none 0 0) (el := 9) (e := 1) (old := []) (w' := w.alloc (.cells (L.map fun x => Value.string (strB x)).toArray 9)) hs (by simp [ownRows]) .v (Nat.le_refl _) (World.grownBy_alloc w _ _) (.inr (.inr rfl)) ⟨_, _, _, rfl⟩ (β := List Nat) (enc := strE) (L := L) hown
    (fun i x hx => rfl) (fun i x j d v hx hd hv => by
      match j, hd with
      | 0, hd =>
        injection hd with hd; subst hd
        rw [Nat.mul_one, Nat.add_zero, List.getElem?_map, hx] at hv
        injection hv with hv; subst hv
        exact .v
      | _ + 1, hd => simp [strE] at hd)
end
theorem gensplit_vc (l : List Nat) (hl : Byt l) (hlen : l.length ≤ 1000000) {c : Nat} (hc : c < 256) {g : Bool} {s : St} {K : D → St → Prop} (h : K (.grow s.nx) ⟨s.F, (s.nx, .grow (List Nat) 9 1 strE (spl c l)) :: s.H, s.nx + 1, s.G⟩) :
    CallVC Tryz.prog g 40 [strD l, strD [c], intD 0, intD (-1)] s K := by
  refine ⟨⟨_, Tryz.func40, rfl⟩, fun E σ τ a w args' hs hr => ?_⟩
  match args', hr with
  | [], hr => have := hr.1; simp at this
  | [_], hr => have := hr.1; simp at this
  | [_, _], hr => have := hr.1; simp at this
  | [_, _, _], hr => have := hr.1; simp at this
  | _ :: _ :: _ :: _ :: _ :: _, hr => have := hr.1; simp at this
  | [v0, v1, v2, v3], hr =>
  have h0 := rep_v (hr.2 0 (strD l) v0 rfl rfl)
  have h1 := rep_v (hr.2 1 (strD [c]) v1 rfl rfl)
  have h2 := rep_v (hr.2 2 (intD 0) v2 rfl rfl)
  have h3 := rep_v (hr.2 3 (intD (-1)) v3 rfl rfl)
  subst h0 h1 h2 h3
  refine (gensplit_at l hl hlen hc w).mono fun e w' ⟨h4, h5⟩ => ?_
  subst h5
  have hsl : (spl c l).length ≤ l.length + 1 := splB_len _ l
  obtain ⟨τ', h6, h7⟩ := strRow_state hs (spl c l) (by omega)
  refine ⟨_, _, σ, τ', _, h, h4, h6, .grow ⟨Nat.lt_succ_self _, h7.symm⟩, fun _ => (Below.refl _ _).alloc (Nat.le_refl _) _⟩
attribute [local irreducible] Fn FnN
theorem split_vc (l : List Nat) (hl : Byt l) (hlen : l.length ≤ 1000000) {c : Nat} (hc : c < 256) {F : List (Nat × D)} {H : List (Nat × LO)} {nx : Nat} {G : List Nat × Nat} {K : D → St → Prop} (h : K (.grow nx) ⟨F, (nx, .grow (List Nat) 9 1 strE (spl c l)) :: H, nx + 1, G⟩) :
    CallVC Tryz.prog false 24 [strD l, strD [c]] ⟨F, H, nx, G⟩ K := by
  refine goIn [] Tryz.func24 rfl (by kernel_rfl) (Nat.le_of_ble_eq_true rfl) ?_
  conv => whnf
  refine gensplit_vc l hl hlen hc ?_
  conv => whnf
  exact h

/-! ### IndexByte -/
def figs : List Nat := [48, 49, 50, 51, 52, 53, 54, 55, 56, 57, 97, 98, 99, 100, 101, 102]
end Go.Proofs.YtgodclgcfpmloaaGreatDoor.V
