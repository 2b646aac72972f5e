/-
  The keys of an empty map, gathered: nothing comes. Condition: the map has no entries. (printed by gen_im.py)
  What lives asks for by name when it is run: words counted, looked for; lines of four steps; the keys of empty maps, gathered. No condition.
-/
import Derived.RangeFuncNested
import Derived.RangeFuncBound
import Derived.RangeFuncCalls
import Derived.RangeFuncLeaves
import Derived.Shelf.Abstract
import Derived.Shelf.RegionOpen
import Derived.WalkKit
import Derived.OwnWalkIn
import Derived.TacticsInMore
import Derived.LoopNIn
import Derived.LoopIn
import Derived.Laws.IdiomRangeMap
import Derived.Maps.RangeRun
import Derived.Test.YtbjhkhhbdlnfbaaGreatDoorProg
import Derived.Test.YtbjhkhhbdlnfbaaGreatDoorCeL
import Derived.Test.YtbjhkhhbdlnfbaaGreatDoorCeP
import Derived.Test.YtbjhkhhbdlnfbaaGreatDoorK6
namespace Go.Proofs.YtbjhkhhbdlnfbaaGreatDoor
open Go.RowKit Go.Shelf Go.Maps
attribute [local go_sem] Oper.semAt_some

abbrev allF : Fence := { fn := fun _ => True }
theorem next_empty {P : Program} (w : World) (ty : TypeId) (b clock : Nat) (hb : w.heap[b]? = some (.map #[] clock)) :
    (Instr.next (.pointer (some ⟨w.heap.size, 0, none⟩)) false ty).run P (w.alloc (.mapIter (some b) clock #[] clock)) = .ok (.tuple #[.bool false]) (w.alloc (.mapIter (some b) clock #[] clock)) := by
  have hlt : b < w.heap.size := (Array.getElem?_eq_some_iff.1 hb).1
  rcases run_next_at (P := P) (w.alloc (.mapIter (some b) clock #[] clock)) ty w.heap.size b clock clock #[] #[] clock (Go.heap_alloc_new w _) ((Below.heap_alloc w _ b hlt).trans hb) (fun x hx => by simp at hx) (Nat.le_refl _) with h | ⟨e, he, _⟩
  · exact h.2
  · simp [leftOf] at he

theorem wpIn_range1 {n : Nat} {P : Program} {gop : Operand} {ps : Array Tmp} {assign body : Code} {Q : Exit → Act → World → Prop} {a : Act} {W0 : World} {g : FuncId} {lb : Array Value} (hn : 1 ≤ n) (hg : a.eval gop = .func (.func g) #[] lb) (eg : ∀ args w, (callFunc g args).run P w = .ok (.enter g args) w)
    (h : ∀ (W1 : World) (r : Loop), W1 = (W0.alloc (.deferred (some []))).alloc (.loop r) → r.state ≠ .busy → r.pending = none → CallsIn allF (n - 1) P g (#[.func (.yield (W0.heap.size + 1)) #[] #[]] ++ lb) W1 (rangePost allF n P (W0.heap.size + 1) Q { a with defers := { target := .collected W0.heap.size, args := #[] } :: a.defers })) :
    (Code.rangeFunc gop ps assign body).wpIn allF n P Q a W0 := by
  refine wpIn_rangeFunc ?_
  intro fn hfn
  rw [show allF.round = none from rfl]
  obtain ⟨W1, hW1⟩ : ∃ W1, (W0.alloc (.deferred (some []))).alloc (.loop { state := .ready, pending := none, fn, tmps := a.tmps, params := ps, assign, body, defers := W0.heap.size }) = W1 := ⟨_, rfl⟩
  refine ⟨W0.heap.size + 1, [{ target := .collected W0.heap.size, args := #[] }], W1, { target := .fn (.func g) lb, args := #[.func (.yield (W0.heap.size + 1)) #[] #[]] }, W1, g, #[.func (.yield (W0.heap.size + 1)) #[] #[]] ++ lb, W1, ?_, ?_, fun _ _ => trivial, ?_, fun _ => hn, ?_⟩
  · rw [← hW1]; exact run_enterLoop_outer _ _ _ _ _
  · simp only [resolve, hg]
    simp [go_sem]
  · simp [invoke, go_sem, eg]
  · exact h W1 _ hW1.symm (by simp) rfl

set_option maxRecDepth 100000 in
set_option maxHeartbeats 1000000 in
theorem keysP_in (n l Bm b clock : Nat) (J : World → Prop) (W : World) (hJ : ∀ o, J W → J (W.alloc o)) (hm : W.cell? ⟨Bm, 0, none⟩ = some (.map (some b))) (hb : W.heap[b]? = some (.map #[] clock)) (h0 : J W) :
    CallsIn allF n Tryz.prog 283 #[.func (.yield l) #[] #[], .pointer (some ⟨Bm, 0, none⟩)] W fun e W' => (∃ v, e = .returned v) ∧ J W' := by
  refine callsIn_of_wp Tryz.func283 rfl trivial ?_ rfl
  simp only [Tryz.ntmps283, List.size_toArray, List.length_cons, List.length_nil, Nat.reduceAdd, Nat.reduceSub, Array.replicate_succ, Array.replicate_zero, List.push_toArray, List.append_toArray, List.nil_append, List.cons_append]
  have hrg := run_range_map (P := Tryz.prog) W 197 _ _ b #[] clock Tryz.underlying197 hb
  have hnx : ∀ ty, (Instr.next (.pointer (some ⟨W.heap.size, 0, none⟩)) false ty).run Tryz.prog (W.alloc (.mapIter (some b) clock #[] clock)) = _ := fun ty => next_empty W ty b clock hb
  gi_wp2
  refine wpIn_loop_rounds 1 ?_
  rw [roundsIn_succ]
  gi_wp2
  go_end0
  exact ⟨⟨_, rfl⟩, hJ _ h0⟩

set_option maxRecDepth 100000 in
set_option maxHeartbeats 2000000 in
theorem appendP_in (Bm b clock : Nat) (w : World) (hBm : Bm < w.heap.size) (hm : w.cell? ⟨Bm, 0, none⟩ = some (.map (some b))) (hb : w.heap[b]? = some (.map #[] clock)) :
    CallsIn allF 5 Tryz.prog 359 #[.slice none 0 0, .func (.func 283) #[] #[.pointer (some ⟨Bm, 0, none⟩)]] w fun e w' => e = .returned (.slice none 0 0) ∧ Below w.heap.size w w' := by
  refine callsIn_of_wp_marks Tryz.func359 rfl trivial ?_ rfl
  simp only [Tryz.ntmps359, List.size_toArray, List.length_cons, List.length_nil, Nat.reduceAdd, Nat.reduceSub, Array.replicate_succ, Array.replicate_zero, List.push_toArray, List.append_toArray, List.nil_append, List.cons_append]
  gi_wp2
  obtain ⟨W0, hW0⟩ : ∃ W0, w.alloc (.cells #[.slice none 0 0] 229) = W0 := ⟨_, rfl⟩
  have hs0 : W0.heap.size = w.heap.size + 1 := by rw [← hW0]; simp
  have hv0 : W0.heap[w.heap.size]? = some (.cells #[.slice none 0 0] 229 (0, 0)) := by rw [← hW0]; exact Go.heap_alloc_new w _
  have hb0 : Below w.heap.size w W0 := by rw [← hW0]; exact (Below.refl _ w).alloc (Nat.le_refl _) _
  have hbl : b < w.heap.size := (Array.getElem?_eq_some_iff.1 hb).1
  rw [hW0]
  refine wpIn_range1 (g := 283) (lb := #[.pointer (some ⟨Bm, 0, none⟩)]) (by decide) rfl (enters_of Tryz.func283 (by kernel_rfl) rfl) ?_
  intro W1 r0 hW1 hr0 hr1
  subst hW1
  · have hold : ∀ (o1 o2 : Obj) k, k < W0.heap.size → ((W0.alloc o1).alloc o2).heap[k]? = W0.heap[k]? := fun o1 o2 k hk => (Below.heap_alloc _ _ k (by simp; omega)).trans (Below.heap_alloc _ _ k hk)
    refine (keysP_in 4 (W0.heap.size + 1) Bm b clock (fun W' => W0.heap.size + 1 < W'.heap.size ∧ W'.heap[w.heap.size]? = some (.cells #[.slice none 0 0] 229 (0, 0)) ∧ (∃ r, W'.heap[W0.heap.size + 1]? = some (.loop r) ∧ r.state ≠ .busy ∧ r.pending = none) ∧ W'.heap[W0.heap.size]? = some (.deferred (some [])) ∧ Below w.heap.size w W') _ ?_ ?_ ?_ ?_).mono ?_
    · rintro o ⟨q0, q1, ⟨r, q2, q3⟩, q4, q5⟩
      exact ⟨by rw [World.size_alloc]; omega, (Below.heap_alloc _ _ _ (by omega)).trans q1, ⟨r, (Below.heap_alloc _ _ _ (by omega)).trans q2, q3⟩, (Below.heap_alloc _ _ _ (by omega)).trans q4, q5.alloc q5.size _⟩
    · have hc : W0.cell? ⟨Bm, 0, none⟩ = some (.map (some b)) := (World.cell?_of_block (by rw [← hW0]; exact Below.heap_alloc w _ Bm hBm)).trans hm
      exact (World.cell?_of_block (hold _ _ Bm (by omega))).trans hc
    · exact (hold _ _ b (by omega)).trans ((by rw [← hW0]; exact Below.heap_alloc w _ b hbl : W0.heap[b]? = w.heap[b]?).trans hb)
    · refine ⟨by simp [World.size_alloc], (hold _ _ _ (by omega)).trans hv0, ⟨r0, ?_, hr0, hr1⟩, (Below.heap_alloc _ _ _ (by simp)).trans (Go.heap_alloc_new W0 _), (hb0.alloc hb0.size _).alloc (by have := hb0.size; simp; omega) _⟩
      have := Go.heap_alloc_new (W0.alloc (.deferred (some []))) (.loop r0)
      rwa [World.size_alloc] at this
    · rintro e W2 ⟨⟨v0, rfl⟩, q0, q1, ⟨r, q2, q3, q6⟩, q4, q5⟩
      have hend := run_endLoop (P := Tryz.prog) q2 q3
      obtain ⟨W3, hW3⟩ : ∃ W3, W2.putObj (W0.heap.size + 1) (.loop { r with state := .exhausted }) = W3 := ⟨_, rfl⟩
      rw [hW3, q6] at hend
      have hv3 : W3.heap[w.heap.size]? = some (.cells #[.slice none 0 0] 229 (0, 0)) := by rw [← hW3]; exact (World.putObj_heap_other (by omega)).trans q1
      have hK3 : W3.heap[W0.heap.size]? = some (.deferred (some [])) := by rw [← hW3]; exact (World.putObj_heap_other (by omega)).trans q4
      have hg3 : W2.grownBy W3 (some (W0.heap.size + 1)) := by rw [← hW3]; exact grownBy_putObj' _ _ _
      have hb3 : Below w.heap.size w W3 := q5.grown hg3 q5.size (fun k e => by cases e; omega)
      have hc3 : W3.cell? ⟨w.heap.size, 0, none⟩ = some (.slice none 0 0) := by simp [World.cell?, hv3]
      clear hW3
      rw [hs0] at hK3
      refine ⟨none, W3, hend, ?_⟩
      gi_wp2
      refine ⟨by simp, .inl ⟨_, _, rfl, run_takeDeferred hK3, ?_⟩⟩
      exact ⟨_, results_tmp rfl _ _ _, rfl, hb3.grown (grownBy_putObj' _ _ _) hb3.size (fun k e => by cases e; omega)⟩

set_option maxRecDepth 100000 in
set_option maxHeartbeats 1000000 in
theorem keysI_in (n l Bm b clock : Nat) (J : World → Prop) (W : World) (hJ : ∀ o, J W → J (W.alloc o)) (hm : W.cell? ⟨Bm, 0, none⟩ = some (.map (some b))) (hb : W.heap[b]? = some (.map #[] clock)) (h0 : J W) :
    CallsIn allF n Tryz.prog 185 #[.func (.yield l) #[] #[], .pointer (some ⟨Bm, 0, none⟩)] W fun e W' => (∃ v, e = .returned v) ∧ J W' := by
  refine callsIn_of_wp Tryz.func185 rfl trivial ?_ rfl
  simp only [Tryz.ntmps185, List.size_toArray, List.length_cons, List.length_nil, Nat.reduceAdd, Nat.reduceSub, Array.replicate_succ, Array.replicate_zero, List.push_toArray, List.append_toArray, List.nil_append, List.cons_append]
  have hrg := run_range_map (P := Tryz.prog) W 164 _ _ b #[] clock Tryz.underlying164 hb
  have hnx : ∀ ty, (Instr.next (.pointer (some ⟨W.heap.size, 0, none⟩)) false ty).run Tryz.prog (W.alloc (.mapIter (some b) clock #[] clock)) = _ := fun ty => next_empty W ty b clock hb
  gi_wp2
  refine wpIn_loop_rounds 1 ?_
  rw [roundsIn_succ]
  gi_wp2
  go_end0
  exact ⟨⟨_, rfl⟩, hJ _ h0⟩

set_option maxRecDepth 100000 in
set_option maxHeartbeats 2000000 in
theorem appendI_in (Bm b clock : Nat) (w : World) (hBm : Bm < w.heap.size) (hm : w.cell? ⟨Bm, 0, none⟩ = some (.map (some b))) (hb : w.heap[b]? = some (.map #[] clock)) :
    CallsIn allF 5 Tryz.prog 231 #[.slice none 0 0, .func (.func 185) #[] #[.pointer (some ⟨Bm, 0, none⟩)]] w fun e w' => e = .returned (.slice none 0 0) ∧ Below w.heap.size w w' := by
  refine callsIn_of_wp_marks Tryz.func231 rfl trivial ?_ rfl
  simp only [Tryz.ntmps231, List.size_toArray, List.length_cons, List.length_nil, Nat.reduceAdd, Nat.reduceSub, Array.replicate_succ, Array.replicate_zero, List.push_toArray, List.append_toArray, List.nil_append, List.cons_append]
  gi_wp2
  obtain ⟨W0, hW0⟩ : ∃ W0, w.alloc (.cells #[.slice none 0 0] 148) = W0 := ⟨_, rfl⟩
  have hs0 : W0.heap.size = w.heap.size + 1 := by rw [← hW0]; simp
  have hv0 : W0.heap[w.heap.size]? = some (.cells #[.slice none 0 0] 148 (0, 0)) := by rw [← hW0]; exact Go.heap_alloc_new w _
  have hb0 : Below w.heap.size w W0 := by rw [← hW0]; exact (Below.refl _ w).alloc (Nat.le_refl _) _
  have hbl : b < w.heap.size := (Array.getElem?_eq_some_iff.1 hb).1
  rw [hW0]
  refine wpIn_range1 (g := 185) (lb := #[.pointer (some ⟨Bm, 0, none⟩)]) (by decide) rfl (enters_of Tryz.func185 (by kernel_rfl) rfl) ?_
  intro W1 r0 hW1 hr0 hr1
  subst hW1
  · have hold : ∀ (o1 o2 : Obj) k, k < W0.heap.size → ((W0.alloc o1).alloc o2).heap[k]? = W0.heap[k]? := fun o1 o2 k hk => (Below.heap_alloc _ _ k (by simp; omega)).trans (Below.heap_alloc _ _ k hk)
    refine (keysI_in 4 (W0.heap.size + 1) Bm b clock (fun W' => W0.heap.size + 1 < W'.heap.size ∧ W'.heap[w.heap.size]? = some (.cells #[.slice none 0 0] 148 (0, 0)) ∧ (∃ r, W'.heap[W0.heap.size + 1]? = some (.loop r) ∧ r.state ≠ .busy ∧ r.pending = none) ∧ W'.heap[W0.heap.size]? = some (.deferred (some [])) ∧ Below w.heap.size w W') _ ?_ ?_ ?_ ?_).mono ?_
    · rintro o ⟨q0, q1, ⟨r, q2, q3⟩, q4, q5⟩
      exact ⟨by rw [World.size_alloc]; omega, (Below.heap_alloc _ _ _ (by omega)).trans q1, ⟨r, (Below.heap_alloc _ _ _ (by omega)).trans q2, q3⟩, (Below.heap_alloc _ _ _ (by omega)).trans q4, q5.alloc q5.size _⟩
    · have hc : W0.cell? ⟨Bm, 0, none⟩ = some (.map (some b)) := (World.cell?_of_block (by rw [← hW0]; exact Below.heap_alloc w _ Bm hBm)).trans hm
      exact (World.cell?_of_block (hold _ _ Bm (by omega))).trans hc
    · exact (hold _ _ b (by omega)).trans ((by rw [← hW0]; exact Below.heap_alloc w _ b hbl : W0.heap[b]? = w.heap[b]?).trans hb)
    · refine ⟨by simp [World.size_alloc], (hold _ _ _ (by omega)).trans hv0, ⟨r0, ?_, hr0, hr1⟩, (Below.heap_alloc _ _ _ (by simp)).trans (Go.heap_alloc_new W0 _), (hb0.alloc hb0.size _).alloc (by have := hb0.size; simp; omega) _⟩
      have := Go.heap_alloc_new (W0.alloc (.deferred (some []))) (.loop r0)
      rwa [World.size_alloc] at this
    · rintro e W2 ⟨⟨v0, rfl⟩, q0, q1, ⟨r, q2, q3, q6⟩, q4, q5⟩
      have hend := run_endLoop (P := Tryz.prog) q2 q3
      obtain ⟨W3, hW3⟩ : ∃ W3, W2.putObj (W0.heap.size + 1) (.loop { r with state := .exhausted }) = W3 := ⟨_, rfl⟩
      rw [hW3, q6] at hend
      have hv3 : W3.heap[w.heap.size]? = some (.cells #[.slice none 0 0] 148 (0, 0)) := by rw [← hW3]; exact (World.putObj_heap_other (by omega)).trans q1
      have hK3 : W3.heap[W0.heap.size]? = some (.deferred (some [])) := by rw [← hW3]; exact (World.putObj_heap_other (by omega)).trans q4
      have hg3 : W2.grownBy W3 (some (W0.heap.size + 1)) := by rw [← hW3]; exact grownBy_putObj' _ _ _
      have hb3 : Below w.heap.size w W3 := q5.grown hg3 q5.size (fun k e => by cases e; omega)
      have hc3 : W3.cell? ⟨w.heap.size, 0, none⟩ = some (.slice none 0 0) := by simp [World.cell?, hv3]
      clear hW3
      rw [hs0] at hK3
      refine ⟨none, W3, hend, ?_⟩
      gi_wp2
      refine ⟨by simp, .inl ⟨_, _, rfl, run_takeDeferred hK3, ?_⟩⟩
      exact ⟨_, results_tmp rfl _ _ _, rfl, hb3.grown (grownBy_putObj' _ _ _) hb3.size (fun k e => by cases e; omega)⟩
end Go.Proofs.YtbjhkhhbdlnfbaaGreatDoor
namespace Go.Proofs.YtbjhkhhbdlnfbaaGreatDoor.V
open Go.RowKit

theorem calls_of_fnV {P : Program} {f : FuncId} {args : List D} {vs : Array Value} {v0 : Value} (h : Fn P f args fun d => d = .v v0) (W : World) (hr : reps (baseCtx W fun b => b < W.heap.size) args vs.toList) :
    Calls P f vs W fun e W' => e = .returned v0 ∧ Under W.heap.size W W' := by
  have := h.2 W _ vs.toList (fun b hb => hb) hr
  refine this.mono fun e w' hh => ?_
  obtain ⟨d, v, rfl, rfl, h1, h2⟩ := hh
  rw [rep_v h2]
  exact ⟨rfl, h1⟩
def lineArgs (k nic n : Int) (lo hi : Nat) : Array Value := #[.agg #[.int .i64 k, .int .i64 nic, .int .i64 n, .slice none 0 0, .int .u64 lo, .int .u64 hi]]
theorem line_calls {k nic n : Int} {lo hi : Nat} {s : List Nat} (ok : (Stp.mk k nic n [] lo hi).ok) (hs : lineS ⟨k, nic, n, [], lo, hi⟩ = s) (W : World) :
    Calls Tryz.prog 9 (lineArgs k nic n lo hi) W fun e W' => e = .returned (.string (strB s)) ∧ Under W.heap.size W W' := by
  have h := lineP_fn ⟨k, nic, n, [], lo, hi⟩ ok
  rw [hs] at h
  refine calls_of_fnV h W ⟨rfl, fun j d u hd hu => ?_⟩
  match j, hd, hu with
  | 0, hd, hu =>
    injection hd with hd; injection hu with hu; subst hd hu
    refine .agg rfl fun j d u hd hu => ?_
    match j, hd, hu with
    | 0, hd, hu => injection hd with hd; injection hu with hu; subst hd hu; exact .v
    | 1, hd, hu => injection hd with hd; injection hu with hu; subst hd hu; exact .v
    | 2, hd, hu => injection hd with hd; injection hu with hu; subst hd hu; exact .v
    | 3, hd, hu => injection hd with hd; injection hu with hu; subst hd hu; exact DLe.nil _ _ _ _ .v
    | 4, hd, hu => injection hd with hd; injection hu with hu; subst hd hu; exact .v
    | 5, hd, hu => injection hd with hd; injection hu with hu; subst hd hu; exact .v
    | j + 6, hd, _ => simp [stD] at hd
  | j + 1, hd, _ => simp at hd
abbrev tPoll : List Nat := [112, 111, 108, 108, 32, 49, 32, 55]
abbrev tTick : List Nat := [116, 105, 99, 107, 32, 53]
abbrev tFrame : List Nat := [102, 114, 97, 109, 101, 32, 48, 32, 45]
abbrev tSecret : List Nat := [115, 101, 99, 114, 101, 116, 32, 48, 48, 48, 48, 48, 48, 48, 48, 48, 48, 48, 48, 48, 48, 48, 49, 32, 48, 48, 48, 48, 48, 48, 48, 48, 48, 48, 48, 48, 48, 48, 102, 102]
theorem ok_of {k nic n : Int} {lo hi : Nat} (h : (0 ≤ k ∧ k ≤ 5) ∧ (0 ≤ nic ∧ nic ≤ 1) ∧ (0 ≤ n ∧ n ≤ 4095) ∧ lo < 1000 ∧ hi < 1000) : (Stp.mk k nic n [] lo hi).ok :=
  ⟨by dsimp only; omega, by dsimp only; omega, by dsimp only; omega, .nil, by dsimp only; omega, by dsimp only; omega⟩
theorem dgI_dig (n : Nat) (h : n < 256) : dgI (n : Int) = dig n := by unfold dgI; rw [Int.toNat_natCast]; exact dgs_dig h
theorem line_poll : lineS ⟨2, 1, 7, [], 0, 0⟩ = tPoll := by
  rw [lineS_may (by decide)]
  show wPoll ++ 32 :: (dgI ((1 : Nat) : Int) ++ 32 :: dgI ((7 : Nat) : Int)) = _
  rw [dgI_dig _ (by decide), dgI_dig _ (by decide)]; decide
theorem line_tick : lineS ⟨4, 0, 5, [], 0, 0⟩ = tTick := by
  rw [lineS_may (by decide)]
  show wTick ++ 32 :: dgI ((5 : Nat) : Int) = _
  rw [dgI_dig _ (by decide)]; decide
theorem line_frame : lineS ⟨1, 0, 0, [], 0, 0⟩ = tFrame := by
  rw [lineS_may (by decide)]
  show wFrame ++ 32 :: (dgI ((0 : Nat) : Int) ++ 32 :: frameT []) = _
  rw [dgI_dig _ (by decide)]; decide
theorem line_secret : lineS ⟨5, 0, 0, [], 1, 255⟩ = tSecret := by
  rw [lineS_may (by decide)]
  show wSecret ++ 32 :: (halfT 1 ++ 32 :: halfT 255) = _
  decide +kernel
end Go.Proofs.YtbjhkhhbdlnfbaaGreatDoor.V

namespace Go.Proofs.YtbjhkhhbdlnfbaaGreatDoor
open Go.RowKit

def oneAsk (f : FuncId) (a : Array Value) (v : Value) (rest : Oracle) : Oracle := fun g args => bif Nat.beq g f && eqArr (eqV 6) args a then some v else rest g args
theorem oneAsk_ok {P : Program} {T : (Nat → Value) → Prop} {f : FuncId} {a : Array Value} {v : Value} {rest : Oracle} (hr : OracleOk P T rest) (ha : a.toList.all (pureD 6) = true) (hv : pureD 6 v = true) (h : ∀ w, Calls P f a w fun e w' => e = .returned v ∧ V.Under w.heap.size w w') : OracleOk P T (oneAsk f a v rest) := by
  intro g args u hu σ w args' hT hargs
  unfold oneAsk at hu
  cases hc : Nat.beq g f && eqArr (eqV 6) args a with
  | false => rw [hc] at hu; exact hr g args u hu σ w args' hT hargs
  | true =>
    rw [hc] at hu
    simp only [cond_true, Option.some.injEq] at hu
    subst hu
    simp only [Bool.and_eq_true] at hc
    have e1 := Nat.eq_of_beq_eq_true hc.1
    have e2 := eqArr_eq (eqV_eq 6) hc.2
    subst e1 e2
    have e3 := rows_eq (fun v v' => pure_eq 6 v v') ha hargs.size hargs.each
    subst e3
    exact (h w).mono fun e w' ⟨h1, h2⟩ => ⟨_, h1, h2, pure_rel 6 _ hv⟩
def byteAsk (f : FuncId) (op : List UInt8 → UInt8 → Int) (rest : Oracle) : Oracle := fun g args => bif Nat.beq g f then (match args with
  | ⟨[.string s, .string ⟨⟨[c]⟩⟩]⟩ => some (.int .i64 (op s.data.toList c))
  | _ => none) else rest g args
theorem byteAsk_ok {P : Program} {T : (Nat → Value) → Prop} {f : FuncId} {op : List UInt8 → UInt8 → Int} {rest : Oracle} (hr : OracleOk P T rest) (h : ∀ (s : ByteArray) (c : UInt8) w, Calls P f #[.string s, .string ⟨#[c]⟩] w fun e w' => e = .returned (.int .i64 (op s.data.toList c)) ∧ w' = w) : OracleOk P T (byteAsk f op rest) := by
  intro g args u hu σ w args' hT hargs
  unfold byteAsk at hu
  cases hc : Nat.beq g f with
  | false => rw [hc] at hu; exact hr g args u hu σ w args' hT hargs
  | true =>
    rw [hc] at hu
    simp only [cond_true] at hu
    have hg := Nat.eq_of_beq_eq_true hc
    subst hg
    split at hu
    · rename_i s c
      injection hu with hu; subst hu
      obtain ⟨l⟩ := args'
      have hl : l.length = 2 := by have := hargs.size; simpa using this.symm
      match l, hl with
      | [x, y], _ =>
        have h0 := hargs.each 0 _ x rfl rfl
        have h1 := hargs.each 1 _ y rfl rfl
        cases h0
        cases h1
        exact (h s c w).mono fun e w' ⟨h1, h2⟩ => ⟨_, h1, h2 ▸ V.Under.refl _ _, .int _ _⟩
    · cases hu
def emptyKeys (fk : FuncId) (args : Array Value) (m : AM) : Option (Value × AM) := match args with
  | ⟨[.slice none 0 0, .func (.func g) ⟨[]⟩ ⟨[.pointer (some ⟨bm, 0, none⟩)]⟩]⟩ => bif Nat.beq g fk then (match m.get bm with
    | some (.cells ⟨[.map (some b)]⟩ _ (0, 0)) => match m.get b with
      | some (.map ⟨[]⟩ _) => some (.slice none 0 0, m)
      | _ => none
    | _ => none) else none
  | _ => none
theorem emptyKeys_ok {P : Program} {fa fk : FuncId} (h : ∀ (Bm b clock : Nat) (w : World), Bm < w.heap.size → w.cell? ⟨Bm, 0, none⟩ = some (.map (some b)) → w.heap[b]? = some (.map #[] clock) →
      Calls P fa #[.slice none 0 0, .func (.func fk) #[] #[.pointer (some ⟨Bm, 0, none⟩)]] w fun e w' => e = .returned (.slice none 0 0) ∧ V.Under w.heap.size w w')
    {args : Array Value} {m : AM} {v : Value} {m' : AM} (hv : emptyKeys fk args m = some (v, m')) {W : Ref} {σ : Ren} {w : World} {args' : Array Value} (hw : WR W σ m w) (hargs : RelVs σ args args') :
    Calls P fa args' w fun e w' => ∃ σ' v', e = .returned v' ∧ Ext σ σ' ∧ WR W σ' m' w' ∧ RelV σ' v v' := by
  unfold emptyKeys at hv
  split at hv
  · rename_i g bm
    cases hc : Nat.beq g fk with
    | false => rw [hc] at hv; cases hv
    | true =>
      rw [hc] at hv
      simp only [cond_true] at hv
      have hg := Nat.eq_of_beq_eq_true hc
      subst hg
      split at hv
      · rename_i b el hbm
        split at hv
        · rename_i ck hb
          injection hv with hv; injection hv with e1 e2; subst e1 e2
          obtain ⟨e, o', he, ho, hrel⟩ := hw.obj _ _ hbm
          obtain ⟨eb, ob, heb, hob, hrelb⟩ := hw.obj _ _ hb
          have hsize := (hw.ent _ _ he).2.2.2
          obtain ⟨l⟩ := args'
          have hl : l.length = 2 := by have := hargs.size; simpa using this.symm
          match l, hl with
          | [x, y], _ =>
            have h0 := hargs.each 0 _ x rfl rfl
            have h1 := hargs.each 1 _ y rfl rfl
            cases h0
            cases h1 with
            | @func fn f0 f1 c0 c1 hf hc hf' hc' =>
              obtain ⟨f1⟩ := f1
              obtain ⟨c1⟩ := c1
              have l1 : f1.length = 0 := by simpa using hf.symm
              have l2 : c1.length = 1 := by simpa using hc.symm
              match f1, l1, c1, l2 with
              | [], _, [z], _ =>
                have h3 := hc' 0 _ z rfl rfl
                cases h3 with
                | ptr he2 =>
                  rw [he] at he2
                  injection he2 with he2; subst he2
                  cases hrel with
                  | cells el hsz hfz hcc h00 h11 =>
                    rename_i cc ff
                    have hsh : e.sh = 0 := (h00 rfl).2.1
                    obtain ⟨v', q1, q2⟩ := hcc 0 _ rfl
                    rw [hsh] at q1
                    cases q2 with
                    | map hm =>
                      rw [heb] at hm
                      injection hm with hm; subst hm
                      cases hrelb with
                      | @map es0 es' ck hs _ =>
                        have hes : es' = #[] := Array.eq_empty_of_size_eq_zero (by simpa using hs.symm)
                        subst hes
                        rw [hsh]
                        exact (h e.blk eb.blk ck w hsize (by simp only [World.cell?, ho]; exact q1) hob).mono fun e w' ⟨h1, h2⟩ => ⟨σ, _, h1, Ext.refl σ, hw.below_of h2, .nilSlice 0 0⟩
        · cases hv
      · cases hv
  · cases hv
def askBase (fa1 fk1 fa2 fk2 : FuncId) (orc : Oracle) : Callee1 := fun f args m => bif Nat.beq f fa1 then emptyKeys fk1 args m else bif Nat.beq f fa2 then emptyKeys fk2 args m else (match orc f args with
  | some v => some (v, m)
  | none => none)
theorem askBase_ok {P : Program} {fa1 fk1 fa2 fk2 : FuncId} {orc : Oracle} (ho : OracleOk P (fun _ => True) orc)
    (h1 : ∀ (Bm b clock : Nat) (w : World), Bm < w.heap.size → w.cell? ⟨Bm, 0, none⟩ = some (.map (some b)) → w.heap[b]? = some (.map #[] clock) →
      Calls P fa1 #[.slice none 0 0, .func (.func fk1) #[] #[.pointer (some ⟨Bm, 0, none⟩)]] w fun e w' => e = .returned (.slice none 0 0) ∧ V.Under w.heap.size w w')
    (h2 : ∀ (Bm b clock : Nat) (w : World), Bm < w.heap.size → w.cell? ⟨Bm, 0, none⟩ = some (.map (some b)) → w.heap[b]? = some (.map #[] clock) →
      Calls P fa2 #[.slice none 0 0, .func (.func fk2) #[] #[.pointer (some ⟨Bm, 0, none⟩)]] w fun e w' => e = .returned (.slice none 0 0) ∧ V.Under w.heap.size w w') : CallOk P (fun _ => True) (askBase fa1 fk1 fa2 fk2 orc) := by
  intro f args m v m' hv W σ w args' hT hw hargs
  unfold askBase at hv
  cases hc : Nat.beq f fa1 with
  | true =>
    rw [hc] at hv
    have := Nat.eq_of_beq_eq_true hc
    subst this
    exact emptyKeys_ok h1 hv hw hargs
  | false =>
    rw [hc] at hv
    simp only [cond_false] at hv
    cases hc2 : Nat.beq f fa2 with
    | true =>
      rw [hc2] at hv
      have := Nat.eq_of_beq_eq_true hc2
      subst this
      exact emptyKeys_ok h2 hv hw hargs
    | false =>
      rw [hc2] at hv
      simp only [cond_false] at hv
      split at hv
      · rename_i u hu
        injection hv with hv; injection hv with e1 e2; subst e1 e2
        exact (ho f args _ hu σ w args' hT hargs).mono fun e w' ⟨v', g1, g2, g3⟩ => ⟨σ, v', g1, Ext.refl σ, hw.below_of g2, g3⟩
      · cases hv

def lvBase : Callee1 := askBase 359 283 231 185
  (byteAsk 68 (fun l c => (Lib.countByte l c : Nat)) (byteAsk 69 Lib.indexByte
    (oneAsk 9 (V.lineArgs 2 1 7 0 0) (.string (V.strB V.tPoll)) (oneAsk 9 (V.lineArgs 4 0 5 0 0) (.string (V.strB V.tTick))
      (oneAsk 9 (V.lineArgs 1 0 0 0 0) (.string (V.strB V.tFrame)) (oneAsk 9 (V.lineArgs 5 0 0 1 255) (.string (V.strB V.tSecret)) noOracle))))))
theorem lvBase_ok : CallOk Tryz.prog (fun _ => True) lvBase := by
  refine askBase_ok (byteAsk_ok (byteAsk_ok (oneAsk_ok (oneAsk_ok (oneAsk_ok (oneAsk_ok (noOracle_ok _) (by decide) (by decide) (V.line_calls (V.ok_of (by decide)) V.line_secret)) (by decide) (by decide) (V.line_calls (V.ok_of (by decide)) V.line_frame)) (by decide) (by decide) (V.line_calls (V.ok_of (by decide)) V.line_tick)) (by decide) (by decide) (V.line_calls (V.ok_of (by decide)) V.line_poll)) fun s c w => ?_) fun s c w => ?_) (fun Bm b clock w hB hm hb => ?_) (fun Bm b clock w hB hm hb => ?_)
  · exact Any.strings_Index_one V.lays143 s c w
  · exact Any.strings_Count_one V.lays138 s c w
  · exact V.calls_under ((appendP_in Bm b clock w hB hm hb).calls fun k d hd => by cases hd)
  · exact V.calls_under ((appendI_in Bm b clock w hB hm hb).calls fun k d hd => by cases hd)
end Go.Proofs.YtbjhkhhbdlnfbaaGreatDoor
