/-
  The keys of a map of places, gathered in a row. Conditions: the map's entries bear stamps of their own.
  slices.AppendSeq, slices.Collect over a map's keys. Conditions: the map's entries bear stamps of their own.
-/
import Derived.RangeFuncNested
import Derived.RangeFuncBound
import Derived.RangeFuncCalls
import Derived.RangeFuncLeaves
import Derived.RangeFuncGives
import Derived.Shelf.Abstract
import Derived.Shelf.RegionOpen
import Derived.WalkKit
import Derived.OwnWalkIn
import Derived.TacticsInMore
import Derived.RegionIn
import Derived.LoopNIn
import Derived.LoopIn
import Derived.Laws.IdiomRangeMap
import Derived.Maps.RangeRun
import Derived.Sort.MapsRangeIn
import Derived.BigFrameIn
import Derived.Maps.AppendAt
import Derived.Test.YtjgihniedhmpeaaProg
namespace Go.Proofs.Ytjgihniedhmpeaa
open Go.RowKit Go.Shelf Go.Maps
attribute [local go_sem] Oper.semAt_some

abbrev allFc : Fence := { fn := fun _ => True }
theorem nodup_map {α β : Type} (f : α → β) : ∀ {l : List α}, (l.map f).Nodup → l.Nodup
  | [], _ => List.nodup_nil
  | x :: r, h => by
    rw [List.map_cons, List.nodup_cons] at h
    exact List.nodup_cons.2 ⟨fun hx => h.1 (List.mem_map_of_mem hx), nodup_map f h.2⟩
open Classical in
theorem nodup_le {α : Type} : ∀ {l l' : List α}, l.Nodup → (∀ x ∈ l, x ∈ l') → l.length ≤ l'.length
  | [], _, _, _ => Nat.zero_le _
  | x :: r, l', hn, hs => by
    rw [List.nodup_cons] at hn
    have h1 := (List.perm_cons_erase (hs x List.mem_cons_self)).length_eq
    have h2 := nodup_le (l' := l'.erase x) hn.2 fun y hy => (List.mem_erase_of_ne (fun (e : y = x) => hn.1 (by rw [← e]; exact hy))).2 (hs y (List.mem_cons_of_mem _ hy))
    rw [h1, List.length_cons, List.length_cons]
    omega
structure WalkAt (es : List MapEntry) (clk b r : Nat) (vis : List MapEntry) (W : World) : Prop where
  map : W.heap[b]? = some (.map es.toArray clk)
  iter : ∃ c0, clk ≤ c0 ∧ W.heap[r]? = some (.mapIter (some b) clk (vis.map (·.born)).toArray c0)
  sub : ∀ e ∈ vis, e ∈ es
  nodup : (vis.map (·.born)).Nodup
theorem WalkAt.perm {es : List MapEntry} {clk b r : Nat} {vis : List MapEntry} {W : World} (h : WalkAt es clk b r vis W) (hb : (es.map (·.born)).Nodup) (h0 : (leftOf es.toArray (vis.map (·.born)).toArray).size = 0) : vis.Perm es := by
  have hn : vis.Nodup := nodup_map _ h.nodup
  have hn2 : es.Nodup := nodup_map _ hb
  refine (List.perm_ext_iff_of_nodup hn hn2).2 fun e => ⟨h.sub e, fun he => ?_⟩
  have h1 : leftOf es.toArray (vis.map (·.born)).toArray = #[] := Array.eq_empty_of_size_eq_zero h0
  unfold leftOf at h1
  rw [Array.filter_eq_empty_iff] at h1
  have h2 := h1 e (by simpa using he)
  simp only [Bool.not_eq_true', Bool.not_eq_false, Array.contains_iff_mem, List.mem_toArray] at h2
  have h2 : e.born ∈ vis.map (·.born) := by simpa using h2
  obtain ⟨e2, h3, h4⟩ := List.mem_map.1 h2
  have h5 : ∀ {l : List MapEntry}, (l.map (·.born)).Nodup → ∀ x ∈ l, ∀ y ∈ l, x.born = y.born → x = y := by
    intro l
    induction l with
    | nil => intro _ x hx; cases hx
    | cons a l ih =>
      intro hn x hx y hy e
      rw [List.map_cons, List.nodup_cons] at hn
      rcases List.mem_cons.1 hx with e1 | hx2 <;> rcases List.mem_cons.1 hy with e2 | hy2
      · rw [e1, e2]
      · exact absurd (List.mem_map.2 ⟨y, hy2, by rw [← e, e1]⟩) hn.1
      · exact absurd (List.mem_map.2 ⟨x, hx2, by rw [e, e2]⟩) hn.1
      · exact ih hn.2 x hx2 y hy2 e
  rw [h5 hb e he e2 (h.sub e2 h3) h4.symm]
  exact h3
theorem WalkAt.keeps {es : List MapEntry} {clk b r : Nat} {vis : List MapEntry} {W W' : World} (h : WalkAt es clk b r vis W) (hk : KeepsWalks W W') : WalkAt es clk b r vis W' := by
  obtain ⟨c0, h1, h2⟩ := h.iter
  exact ⟨hk.same b _ h.map rfl, ⟨c0, h1, hk.same r _ h2 rfl⟩, h.sub, h.nodup⟩
def leftN (n r : Nat) (W : World) : Nat := match W.heap[r]? with
  | some (.mapIter _ _ seen _) => n - seen.size
  | _ => 0
theorem grownBy_setAt {W : World} {r : Nat} {o : Obj} (o' : Obj) (_ : W.heap[r]? = some o) : W.grownBy (ChangeMaps.setBlock W r o') (some r) := by
  refine ⟨rfl, rfl, rfl, by simp [ChangeMaps.setBlock], fun k _ hk => ?_⟩
  show (W.heap.setIfInBounds r o')[k]? = _
  rw [Array.getElem?_setIfInBounds, if_neg (fun e => hk (by rw [e]))]
section
variable {F : Fence} {n : Nat} {P : Program} {ops : Array Oper} {rest : List Oper} {o : Oper} {a : Act} {Q : Exit → Act → World → Prop} {w : World}
theorem wpListIn_next_at (hg : o.guard = none) (it : Operand) (hop : o.op = Op.next it false) (es : List MapEntry) (clk b r : Nat) (vis : List MapEntry) (hborn : ∀ e ∈ es, e.born < clk) (hit : a.eval it = .pointer (some ⟨r, 0, none⟩)) (h : WalkAt es clk b r vis w)
    (hDone : (leftOf es.toArray (vis.map (·.born)).toArray).size = 0 → wpListIn F n P ops Q rest (a.put o.dst (.tuple #[.bool false])) w)
    (hMore : ∀ (e : MapEntry) (w' : World), e ∈ es → e.born ∉ vis.map (·.born) → WalkAt es clk b r (vis ++ [e]) w' → (∃ o, w.heap[r]? = some o ∧ o.isWalk = true) → w.grownBy w' (some r) → leftN es.length r w' < leftN es.length r w → (Instr.entry (.pointer (some ⟨r, 0, none⟩))).run P w' = .ok (.tuple #[e.key, e.val]) w' → wpListIn F n P ops Q rest (a.put o.dst (.tuple #[.bool true, e.key, e.val])) w') :
    (es.map (·.born)).Nodup → wpListIn F n P ops Q (o :: rest) a w := by
  intro hnd
  obtain ⟨c0, hc, hr⟩ := h.iter
  refine wpListIn_plain hg fun K' hK' => ?_
  unfold Oper.wpIn
  refine ⟨by simp [Oper.about, hop], ?_⟩
  rw [Oper.semAt_plain F _ _ (by rw [hop]; intro c hc'; cases hc')]
  rcases run_next_at (P := P) w o.type r b clk c0 _ es.toArray clk hr h.map (fun x hx => hborn x (by simpa using hx)) hc with ⟨h0, hrun⟩ | ⟨e, he, w1, hw1, hrun⟩
  · simp [execOp, hop, hit, hrun, Result.andThen]
    exact hK' _ _ (hDone h0)
  · have hseen : (vis.map (·.born)).toArray.push e.born = ((vis ++ [e]).map (·.born)).toArray := by simp
    have hpush : (vis.map (·.born)).toArray.push e.born = ((vis ++ [e]).map (·.born)).toArray := hseen
    obtain ⟨sn, hsn⟩ : ∃ sn, sn = (vis.map (·.born)).toArray.push e.born := ⟨_, rfl⟩
    rw [← hsn] at hrun hseen
    simp [execOp, hop, hit, hrun, Result.andThen]
    refine hK' _ _ ?_
    unfold leftOf at he
    have he1 : e ∈ es ∧ e.born ∉ vis.map (·.born) := by
      simp only [Array.toList_filter, List.mem_filter, Bool.not_eq_true'] at he
      refine ⟨by simpa using he.1, fun hin => ?_⟩
      have h3 : (vis.map (·.born)).toArray.contains e.born = true := Array.contains_iff_mem.2 (by simpa using hin)
      have := he.2
      rw [h3] at this
      cases this
    have hr1 : w1.heap[r]? = some (.mapIter (some b) clk (vis.map (·.born)).toArray c0) := by rcases hw1 with rfl | rfl <;> exact hr
    have hb1 : w1.heap[b]? = some (.map es.toArray clk) := by rcases hw1 with rfl | rfl <;> exact h.map
    have hrb : r ≠ b := fun e => by rw [e, hb1] at hr1; cases hr1
    have hlt : r < w1.heap.size := (Array.getElem?_eq_some_iff.1 hr1).1
    have hg1 := grownBy_setAt (.mapIter (some b) clk sn clk) hr1
    have hset : (ChangeMaps.setBlock w1 r (.mapIter (some b) clk sn clk)).heap[r]? = some (.mapIter (some b) clk ((vis ++ [e]).map (·.born)).toArray clk) := by
      rw [← hseen]
      show (w1.heap.setIfInBounds r _)[r]? = _
      simp [hlt]
    have hat : WalkAt es clk b r (vis ++ [e]) (ChangeMaps.setBlock w1 r (.mapIter (some b) clk sn clk)) := by
      refine ⟨(hg1.block b (Array.getElem?_eq_some_iff.1 hb1).1 (fun e => hrb (by injection e with e; exact e.symm))).trans hb1, ⟨clk, Nat.le_refl _, hset⟩, fun x hx => ?_, ?_⟩
      · rcases List.mem_append.1 hx with hx | hx
        · exact h.sub x hx
        · rw [List.mem_singleton.1 hx]; exact he1.1
      · rw [List.map_append, List.nodup_append]
        refine ⟨h.nodup, by simp, fun x hx y hy e2 => ?_⟩
        have : y = e.born := by simpa using hy
        rw [e2, this] at hx
        exact he1.2 hx
    have hlen : vis.length < es.length := by
      have hsub : (vis ++ [e]).length ≤ es.length := by
        exact nodup_le (nodup_map _ hat.nodup) hat.sub
      simp at hsub
      omega
    refine hMore e _ he1.1 he1.2 hat ⟨_, hr, rfl⟩ ?_ ?_ (run_entry_at (P := P) _ r b clk (vis.map (·.born)).toArray es.toArray clk e (by rw [hpush]; exact hset) hat.map (by simpa using he1.1) (by simpa using hnd))
    · rcases hw1 with rfl | rfl
      · exact hg1
      · exact ⟨hg1.os, hg1.tape, hg1.output, hg1.size, hg1.block⟩
    · unfold leftN
      rw [hset, hr]
      simp
      omega
end
set_option maxRecDepth 100000 in
set_option maxHeartbeats 2000000 in
theorem keysPl_in (n l Bm b clk : Nat) (hn : 1 ≤ n) (es : List MapEntry) (hborn : ∀ e ∈ es, e.born < clk) (hnd : (es.map (·.born)).Nodup) (hkey : ∀ e ∈ es, ∃ x y, e.key = .agg #[.int .i64 x, .int .u32 y]) (J : List Value → World → Prop) (W : World) (hJ : AbidesFrom W.heap.size J)
    (hY : ∀ pre x W, J pre W → pre.length < es.length → (∃ e ∈ es, e.key = x) → YieldAt allFc (n - 1) Try.prog l #[x] W fun e W' => e = .returned (.bool true) ∧ J (pre ++ [x]) W' ∧ KeepsWalks W W')
    (hm : W.cell? ⟨Bm, 0, none⟩ = some (.map (some b))) (hb : W.heap[b]? = some (.map es.toArray clk)) (h0 : J [] W) :
    CallsIn allFc n Try.prog 42 #[.func (.yield l) #[] #[], .pointer (some ⟨Bm, 0, none⟩)] W fun e W' => (∃ v, e = .returned v) ∧ ∃ vis : List MapEntry, vis.Perm es ∧ J (vis.map (·.key)) W' := by
  refine callsIn_of_wp Try.func42 rfl trivial ?_ rfl
  simp only [Try.ntmps42, List.size_toArray, List.length_cons, List.length_nil, Nat.reduceAdd, Nat.reduceSub, Array.replicate_succ, Array.replicate_zero, List.push_toArray, List.append_toArray, List.nil_append, List.cons_append]
  have hrg := run_range_map (P := Try.prog) W 69 _ _ b es.toArray clk Try.underlying69 hb
  have hbl : b < W.heap.size := (Array.getElem?_eq_some_iff.1 hb).1
  gi_wp2
  have hstart : WalkAt es clk b W.heap.size [] (W.alloc (.mapIter (some b) clk #[] clk)) := ⟨(Below.heap_alloc _ _ b hbl).trans hb, ⟨clk, Nat.le_refl _, Go.heap_alloc_new W _⟩, (fun e he => by cases he), List.nodup_nil⟩
  have hJ0 : J [] (W.alloc (.mapIter (some b) clk #[] clk)) := hJ [] W _ none h0 ⟨rfl, rfl, rfl, by simp, fun k hk _ => Below.heap_alloc W _ k hk⟩ (fun r e => by cases e)
  obtain ⟨W2, hW2⟩ : ∃ W2, W.alloc (.mapIter (some b) clk #[] clk) = W2 := ⟨_, rfl⟩
  rw [hW2] at hstart hJ0 ⊢
  clear hrg hW2
  gi_loopw [3] (fun _ wr => ∃ vis : List MapEntry, WalkAt es clk b W.heap.size vis wr ∧ J (vis.map (·.key)) wr) (fun _ wr => leftN es.length W.heap.size wr)
  case atStart => exact ⟨[], hstart, hJ0⟩
  case round =>
    obtain ⟨vis, hat, hJs⟩ := hrel
    gi_wp2_with (first
      | (gi_at_next; refine wpListIn_next_at rfl _ rfl es clk b W.heap.size vis hborn rfl hat ?_ ?_ hnd)
      | gi_in)
    · intro hdone
      gi_wp2
      go_end0
      exact ⟨⟨_, rfl⟩, vis, hat.perm hnd (by rw [hdone]; rfl), hJs⟩
    · intro e w2 hes hnew hat2 ow how1 how2 hg2 hlt hen
      have hJ2 : J (vis.map (·.key)) w2 := hJ _ wr w2 (some W.heap.size) hJs hg2 (fun r e => by cases e; exact ⟨Nat.le_refl _, ow, how1, how2⟩)
      obtain ⟨x, y, hk⟩ := hkey e hes
      have hlen : (vis.map (·.key)).length < es.length := by
        have := nodup_le (nodup_map _ hat2.nodup) hat2.sub
        simp at this ⊢
        omega
      rw [hk] at hen
      rw [hk]
      obtain ⟨fn, tmps, assign, body, hy, hR⟩ := hY _ _ (w2.alloc (.cells #[.int .i64 x, .int .u32 y] 39)) (hJ _ w2 _ none hJ2 ⟨rfl, rfl, rfl, by simp, fun k hk _ => Below.heap_alloc w2 _ k hk⟩ (fun r e => by cases e)) hlen ⟨e, hes, hk⟩
      gi_wp2
      refine hR.mono ?_
      rintro e3 W3 ⟨rfl, hJ3, hk3⟩
      gi_wp2
      have hat3 := (hat2.keeps (KeepsWalks.alloc w2 _)).keeps hk3
      have hl3 : leftN es.length W.heap.size W3 = leftN es.length W.heap.size w2 := by
        obtain ⟨c1, _, hi1⟩ := hat2.iter
        obtain ⟨c2, _, hi2⟩ := hat3.iter
        unfold leftN
        rw [hi1, hi2]
      go_roundw
      case rel => exact ⟨vis ++ [e], hat3, by rw [List.map_append, List.map_cons, List.map_nil, hk]; exact hJ3⟩
      case measure => rw [hl3]; exact hlt

/-! ### slices.AppendSeq at places -/
def plAssign : Code := (Code.region 2 #[{ dst := some 5, op := Op.alloc 39, type := 0, pos := "iter.go:51", after := #[], guard := none }, { dst := none, op := Op.store 39 (Operand.tmp 5) (Operand.tmp 7), type := 0, pos := "iter.go:51", after := #[{ on := 0, ground := Ground.data }, { on := 0, ground := Ground.phase }], guard := none }] false)
def plBody : Code := (Code.block 1 (Code.region 3 #[{ dst := some 8, op := Op.load 51 (Operand.tmp 2), type := 51, pos := "iter.go:52", after := #[], guard := none }, { dst := some 9, op := Op.load 39 (Operand.tmp 5), type := 39, pos := "iter.go:52", after := #[], guard := none },
  { dst := some 10, op := Op.buildSlice 51 1 #[(0, Operand.tmp 9)], type := 51, pos := "iter.go:52", after := #[{ on := 1, ground := Ground.data }], guard := none },
  { dst := some 11, op := Op.call { callee := Callee.builtin Builtin.append, args := #[Operand.tmp 8, Operand.tmp 10], argTypes := #[51, 51] }, type := 51, pos := "iter.go:52", after := #[{ on := 0, ground := Ground.data }, { on := 2, ground := Ground.data }], guard := none },
  { dst := none, op := Op.store 51 (Operand.tmp 2) (Operand.tmp 11), type := 0, pos := "iter.go:52", after := #[{ on := 3, ground := Ground.data }, { on := 3, ground := Ground.chain }, { on := 0, ground := Ground.phase }, { on := 1, ground := Ground.phase }, { on := 2, ground := Ground.phase }, { on := 3, ground := Ground.phase }], guard := none }] false))
def plRec (fn : FuncId) (sv : Value) (Bs D : Nat) (st : LoopState) (pend : Option Code) : Loop :=
  { state := st, pending := pend, fn, tmps := #[.slice none 0 0, sv, .pointer (some ⟨Bs, 0, none⟩), undef, .slice none 0 0, undef, sv, undef, undef, undef, undef, undef, undef], params := #[7], assign := plAssign, body := plBody, defers := D }
def plV (x : Int × Int) : Value := .agg #[.int .i64 x.1, .int .u32 x.2]
def plCells (L : List (Int × Int)) : List Value := L.flatMap fun x => [.int .i64 x.1, .int .u32 x.2]
structure PlAt (w0 : World) (fn : FuncId) (sv : Value) (Bs l D : Nat) (ss : List Value) (W : World) : Prop where
  box : ∃ v xs, ss = xs.map plV ∧ W.heap[Bs]? = some (.cells #[v] 51 (0, 0)) ∧ W.ownsRow w0.heap.size 39 2 v xs.length (plCells xs)
  L : W.heap[l]? = some (.loop (plRec fn sv Bs D .ready none))
  K : W.heap[D]? = some (.deferred (some []))
  below : Below w0.heap.size w0 W
theorem plRow_keeps {W W' : World} {row : Option Nat} {base : Nat} {e : TypeId} {size : Nat} {v : Value} {k : Nat} {xs : List Value} (h : W.ownsRow base e size v k xs) (hg : W.grownBy W' row)
    (hrow : ∀ r, row = some r → ∃ o : Obj, W.heap[r]? = some o ∧ o.isWalk = true) : W'.ownsRow base e size v k xs := by
  refine h.kept hg ?_
  rcases h.2 with ⟨rfl, _⟩ | ⟨g, cap, cur, rfl, _, hgb, _⟩
  · exact .inl rfl
  · refine .inr fun e' => ?_
    obtain ⟨o, ho, hw⟩ := hrow g (by simpa [Value.ownBlock] using e'.symm)
    rw [hgb] at ho; cases ho; cases hw
theorem plAt_abides (w0 : World) (fn : FuncId) (sv : Value) (Bs l D B : Nat) (hB : w0.heap.size ≤ B) : AbidesFrom B (PlAt w0 fn sv Bs l D) := fun s W W' row h hg hrow => by
  have hrow' : ∀ r, row = some r → ∃ o : Obj, W.heap[r]? = some o ∧ o.isWalk = true := fun r e => (hrow r e).2
  obtain ⟨v, xs, hs, hv, hr⟩ := h.box
  exact ⟨⟨v, xs, hs, (grownBy_keeps hg hrow' hv rfl).trans hv, plRow_keeps hr hg hrow'⟩, (grownBy_keeps hg hrow' h.L rfl).trans h.L, (grownBy_keeps hg hrow' h.K rfl).trans h.K, h.below.grown hg h.below.size (fun k e => Nat.le_trans hB (hrow k e).1)⟩
theorem plPut (W : World) (l : Nat) (o : Obj) : W.grownBy (W.putObj l o) (some l) := ⟨rfl, rfl, rfl, by simp, fun k _ hk => World.putObj_heap_other (fun e => hk (by rw [e]))⟩
theorem plSet (W : World) (b : Nat) (v : Value) : W.grownBy (W.setCell ⟨b, 0, none⟩ v) (some b) := ⟨rfl, rfl, rfl, (KeepsWalks.setCell W _ v).size, fun k _ hk => Below.heap_setCell _ _ _ k (fun e => hk (by rw [e]))⟩
theorem plRow_ne {W : World} {base : Nat} {e : TypeId} {size : Nat} {v : Value} {k : Nat} {xs : List Value} (h : W.ownsRow base e size v k xs) {j : Nat} {o : Obj} (hj : W.heap[j]? = some o) (hno : ∀ cur, o ≠ .cells cur e (0, 0)) : v.ownBlock = none ∨ v.ownBlock ≠ some j := by
  rcases h.2 with ⟨rfl, _⟩ | ⟨g, cap, cur, rfl, _, hgb, _⟩
  · exact .inl rfl
  · refine .inr fun e' => ?_
    have : g = j := by simpa [Value.ownBlock] using e'
    subst this; rw [hgb] at hj; cases hj; exact hno cur rfl
theorem plBox {W : World} {B : Nat} {v : Value} {t : TypeId} (h : W.heap[B]? = some (.cells #[v] t (0, 0))) : W.cell? ⟨B, 0, none⟩ = some v ∧ W.frozen? ⟨B, 0, none⟩ = false := by
  constructor <;> simp [World.cell?, World.frozen?, h]
theorem plBoxSet {W : World} {B : Nat} {v : Value} {t : TypeId} (v' : Value) (h : W.heap[B]? = some (.cells #[v] t (0, 0))) : (W.setCell ⟨B, 0, none⟩ v').heap[B]? = some (.cells #[v'] t (0, 0)) := by
  obtain ⟨hlt, hk⟩ := Array.getElem?_eq_some_iff.1 h
  show (W.heap.modify B _)[B]? = _
  rw [Array.getElem?_eq_getElem (by rw [Array.size_modify]; exact hlt), Array.getElem_modify_self, hk]
  rfl
theorem plRow_walk {W : World} {base : Nat} {e : TypeId} {size : Nat} {v : Value} {k : Nat} {xs : List Value} (h : W.ownsRow base e size v k xs) : ∀ (j : Nat) (o : Obj), v.ownBlock = some j → W.heap[j]? = some o → o.isWalk = false := by
  intro j o hj ho
  rcases h.2 with ⟨rfl, _⟩ | ⟨g, cap, cur, rfl, _, hgb, _⟩
  · simp [Value.ownBlock] at hj
  · have : g = j := by simpa [Value.ownBlock] using hj
    subst this; rw [hgb] at ho; cases ho; rfl
theorem plInfo : ∃ i z, Try.prog.info? 39 = some i ∧ i.zero = some z ∧ i.size = 2 ∧ i.bytes = 16 ∧ z.cells.size = 2 := by
  have h : ((Try.prog.info? 39).map fun i => (i.zero.map fun z => z.cells.size, i.size, i.bytes)) = some (some 2, 2, 16) := by kernel_rfl
  cases hi : Try.prog.info? 39 with
  | none => rw [hi] at h; cases h
  | some i =>
    rw [hi] at h
    simp only [Option.map_some, Option.some.injEq, Prod.mk.injEq] at h
    obtain ⟨h1, h2, h3⟩ := h
    cases hz : i.zero with
    | none => rw [hz] at h1; cases h1
    | some z =>
      rw [hz] at h1
      exact ⟨i, z, rfl, hz, h2, h3, by simpa using h1⟩
set_option maxRecDepth 100000 in
set_option maxHeartbeats 4000000 in
theorem plYield (m : Nat) (w0 : World) (fn : FuncId) (sv : Value) (Bs l D : Nat) (hBl : Bs ≠ l) (hDl : D ≠ l) (hDB : D ≠ Bs) (h0B : w0.heap.size ≤ Bs) (h0l : w0.heap.size ≤ l)
    (N : Nat) (hN : N ≤ 1000000) (ss : List Value) (x : Int × Int) (W : World) (h : PlAt w0 fn sv Bs l D ss W) (hlen : ss.length < N) :
    YieldAt allFc m Try.prog l #[plV x] W fun e W' => e = .returned (.bool true) ∧ PlAt w0 fn sv Bs l D (ss ++ [plV x]) W' ∧ KeepsWalks W W' := by
  obtain ⟨i0, z0, hi, hz0, hz1, hz2, hz3⟩ := plInfo
  have u51 := Try.underlying51
  obtain ⟨v, xs, hss, hv, hrow⟩ := h.box
  have hxl : xs.length < N := by rw [hss] at hlen; simpa using hlen
  refine ⟨fn, #[.slice none 0 0, sv, .pointer (some ⟨Bs, 0, none⟩), undef, .slice none 0 0, undef, sv, plV x, undef, undef, undef, undef, undef], plAssign, plBody, by simpa [plRec] using run_yield (P := Try.prog) (args := #[plV x]) h.L rfl, roundIn_of_wpIn trivial ?_⟩
  have hl0 : l < W.heap.size := (Array.getElem?_eq_some_iff.1 h.L).1
  have hB0 : Bs < W.heap.size := (Array.getElem?_eq_some_iff.1 hv).1
  have hD0 : D < W.heap.size := (Array.getElem?_eq_some_iff.1 h.K).1
  -- the element's box
  obtain ⟨Wb, hWb⟩ : ∃ Wb, W.alloc (.cells #[.int .i64 x.1, .int .u32 x.2] 39) = Wb := ⟨_, rfl⟩
  have hbg : W.grownBy Wb none := by rw [← hWb]; exact ⟨rfl, rfl, rfl, by simp, fun k hk _ => Below.heap_alloc W _ k hk⟩
  have hkb : KeepsWalks W Wb := by rw [← hWb]; exact KeepsWalks.alloc _ _
  have hbsz : Wb.heap.size = W.heap.size + 1 := by rw [← hWb]; simp
  have hve : Wb.heap[Bs]? = some (.cells #[v] 51 (0, 0)) := (hbg.block Bs hB0 (by simp)).trans hv
  have hLe : Wb.heap[l]? = some (.loop (plRec fn sv Bs D .ready none)) := (hbg.block l hl0 (by simp)).trans h.L
  have hKe : Wb.heap[D]? = some (.deferred (some [])) := (hbg.block D hD0 (by simp)).trans h.K
  have hrowe : Wb.ownsRow w0.heap.size 39 2 v xs.length (plCells xs) := by rw [← hWb]; exact hrow.alloc _
  have hbe : Below w0.heap.size w0 Wb := h.below.grown hbg h.below.size (fun k e => by cases e)
  have hbox : Wb.heap[W.heap.size]? = some (.cells #[.int .i64 x.1, .int .u32 x.2] 39 (0, 0)) := by rw [← hWb]; exact Go.heap_alloc_new W _
  have hbr := run_beginRound (P := Try.prog) hLe rfl
  obtain ⟨W2, hW2⟩ : ∃ W2, Wb.putObj l (.loop { plRec fn sv Bs D .ready none with state := .busy }) = W2 := ⟨_, rfl⟩
  rw [hW2] at hbr
  have hg2 : Wb.grownBy W2 (some l) := by rw [← hW2]; exact plPut _ _ _
  have hk2 : KeepsWalks Wb W2 := by rw [← hW2]; exact KeepsWalks.putObj _ hLe rfl
  have hs2 : W2.heap.size = W.heap.size + 1 := by rw [← hW2, ← hbsz]; simp
  have hv2 : W2.heap[Bs]? = some (.cells #[v] 51 (0, 0)) := by rw [← hW2]; exact (World.putObj_heap_other hBl).trans hve
  have hK2 : W2.heap[D]? = some (.deferred (some [])) := by rw [← hW2]; exact (World.putObj_heap_other hDl).trans hKe
  have hL2 : W2.heap[l]? = some (.loop { plRec fn sv Bs D .ready none with state := .busy }) := by rw [← hW2]; exact World.putObj_heap_same (by omega)
  have hbx2 : W2.heap[W.heap.size]? = some (.cells #[.int .i64 x.1, .int .u32 x.2] 39 (0, 0)) := by rw [← hW2]; exact (World.putObj_heap_other (by omega)).trans hbox
  have hrow2 : W2.ownsRow w0.heap.size 39 2 v xs.length (plCells xs) := hrowe.kept hg2 (plRow_ne hrowe hLe (fun cur e => by cases e))
  have hb2 : Below w0.heap.size w0 W2 := hbe.grown hg2 hbe.size (fun k e => by cases e; exact h0l)
  have hBlt : Bs < W2.heap.size := (Array.getElem?_eq_some_iff.1 hv2).1
  have hl2 : l < W2.heap.size := (Array.getElem?_eq_some_iff.1 hL2).1
  have hDlt : D < W2.heap.size := (Array.getElem?_eq_some_iff.1 hK2).1
  obtain ⟨hc2, hf2⟩ := plBox hv2
  have hcx0 : W2.cell? ⟨W.heap.size, 0, none⟩ = some (.int .i64 x.1) := by simp [World.cell?, hbx2]
  have hcx1 : W2.cell? ⟨W.heap.size, 1, none⟩ = some (.int .u32 x.2) := by simp [World.cell?, hbx2]
  have ne_of : ∀ {j : Nat} {o : Obj}, W2.heap[j]? = some o → (∀ cur, o ≠ .cells cur 39 (0, 0)) → some j ≠ v.ownBlock := fun hj hno => by
    rcases plRow_ne hrow2 hj hno with e | e
    · rw [e]; simp
    · exact fun e' => e e'.symm
  clear hW2 hs2
  unfold plAssign plV
  gi_wp2_with (rw [Oper.semAt_eq _ _ _ (fun c h => by cases h)]; go_simp; try go_bits)
  unfold plBody
  have hcz : ∀ (j : Nat) (u : Value), [Value.int .i64 x.1, Value.int .u32 x.2][j]? = some u → (W2.alloc (.cells #[.int .i64 x.1, .int .u32 x.2] 39)).cell? ((⟨W2.heap.size, 0, none⟩ : Addr).add j) = some u := fun j u hu => by
    have hnew := Go.heap_alloc_new W2 (.cells #[.int .i64 x.1, .int .u32 x.2] 39 (0, 0))
    match j, hu with
    | 0, hu => injection hu with hu; subst hu; show World.cell? _ ⟨W2.heap.size, 0 + 0, none⟩ = _; unfold World.cell?; rw [hnew]; rfl
    | 1, hu => injection hu with hu; subst hu; show World.cell? _ ⟨W2.heap.size, 0 + 1, none⟩ = _; unfold World.cell?; rw [hnew]; rfl
    | j + 2, hu => simp at hu
  gi_wp2_with (first
    | (gi_at_builtin; refine wpListIn_append_own _ rfl _ _ 51 rfl w0.heap.size 39 i0 z0 2 16 u51 hi hz0 hz1 hz2 hz3 (by decide) _ _ _ rfl (hrow2.alloc _) ⟨W2.heap.size, 0, none⟩ 1 1 [.int .i64 x.1, .int .u32 x.2] rfl rfl hcz (by simp [Value.oneCell']) (by simp only [Go.maxLen]; omega) (by omega) (by have := hb2.size; simp; omega) ?_; intro v' w3 hown' hg3 hnil3
       have hv3 : w3.heap[Bs]? = some (.cells #[v] 51 (0, 0)) := (hg3.block Bs (by simp; omega) (ne_of hv2 (fun cur e => by cases e))).trans ((Below.heap_alloc _ _ Bs hBlt).trans hv2)
       obtain ⟨hc3, hf3⟩ := plBox hv3
       obtain ⟨g', cap', cur', rfl, hbase', hgb', hr1, hr2, hr3, hr4⟩ : ∃ g' cap' cur', v' = .slice (some ⟨g', 0, none⟩) (xs.length + 1) cap' ∧ w0.heap.size ≤ g' ∧ w3.heap[g']? = some (.cells cur' 39 (0, 0)) ∧ xs.length + 1 ≤ cap' ∧ cap' ≤ maxLen ∧ cur'.size = cap' * 2 ∧ cur'.toList.take ((xs.length + 1) * 2) = plCells xs ++ [.int .i64 x.1, .int .u32 x.2] := by
         rcases hown'.2 with ⟨_, h0⟩ | h'
         · exact absurd h0 (by omega)
         · exact h'
       go_frame)
    | (rw [Oper.semAt_eq _ _ _ (fun c h => by cases h)]; go_simp; try go_bits))
  have hg3' : (W2.alloc (.cells #[.int .i64 x.1, .int .u32 x.2] 39)).grownBy w3 v.ownBlock := hg3
  have hL3 : w3.heap[l]? = some (.loop { plRec fn sv Bs D .ready none with state := .busy }) := (hg3'.block l (by simp; omega) (ne_of hL2 (fun cur e => by cases e))).trans ((Below.heap_alloc _ _ l hl2).trans hL2)
  have hK3 : w3.heap[D]? = some (.deferred (some [])) := (hg3'.block D (by simp; omega) (ne_of hK2 (fun cur e => by cases e))).trans ((Below.heap_alloc _ _ D hDlt).trans hK2)
  obtain ⟨w4, hw4⟩ : ∃ w4, w3.setCell ⟨Bs, 0, none⟩ (.slice (some ⟨g', 0, none⟩) (xs.length + 1) cap') = w4 := ⟨_, rfl⟩
  rw [hw4]
  have hg4 : w3.grownBy w4 (some Bs) := by rw [← hw4]; exact plSet _ _ _
  have hv4 : w4.heap[Bs]? = some (.cells #[.slice (some ⟨g', 0, none⟩) (xs.length + 1) cap'] 51 (0, 0)) := by rw [← hw4]; exact plBoxSet _ hv3
  have hL4 : w4.heap[l]? = some (.loop { plRec fn sv Bs D .ready none with state := .busy }) := (hg4.block l (Array.getElem?_eq_some_iff.1 hL3).1 (fun e => hBl (by cases e; rfl))).trans hL3
  have hK4 : w4.heap[D]? = some (.deferred (some [])) := (hg4.block D (Array.getElem?_eq_some_iff.1 hK3).1 (fun e => hDB (by cases e; rfl))).trans hK3
  have hrow4 := hown'.kept hg4 (plRow_ne hown' hv3 (fun cur e => by cases e))
  have hl4 : l < w4.heap.size := (Array.getElem?_eq_some_iff.1 hL4).1
  have hb3 : Below w0.heap.size w0 w3 := (hb2.alloc hb2.size _).grown hg3' (by have := hb2.size; simp; omega) (fun k e => (hrow2.lt k e).1)
  have hb4 : Below w0.heap.size w0 w4 := hb3.grown hg4 hb3.size (fun k e => by cases e; exact h0B)
  have hk4 : KeepsWalks W w4 := ((((hkb.trans hk2).trans (KeepsWalks.alloc _ _)).trans (KeepsWalks.of_grownBy hg3' (plRow_walk (hrow2.alloc _))))).trans (by rw [← hw4]; exact KeepsWalks.setCell _ _ _)
  clear hw4
  have hcs : plCells (xs ++ [x]) = plCells xs ++ [.int .i64 x.1, .int .u32 x.2] := by unfold plCells; rw [List.flatMap_append]; rfl
  refine ⟨_, _, run_endRound none hL4, rfl, ⟨⟨_, xs ++ [x], ?_, (World.putObj_heap_other hBl).trans hv4, ?_⟩, World.putObj_heap_same hl4, (World.putObj_heap_other hDl).trans hK4, hb4.grown (plPut _ _ _) hb4.size (fun k e => by cases e; exact h0l)⟩, hk4.trans (KeepsWalks.putObj _ hL4 rfl)⟩
  · rw [List.map_append]; rfl
  · have := hrow4.kept (plPut w4 l (.loop { { plRec fn sv Bs D .ready none with state := .busy } with state := if (none : Option Code).isNone then .ready else .done, pending := none })) (plRow_ne hrow4 hL4 (fun cur e => by cases e))
    rw [hcs]
    simpa using this
end Go.Proofs.Ytjgihniedhmpeaa
namespace Go.Proofs.Ytjgihniedhmpeaa
open Go.RowKit Go.Shelf Go.Maps
attribute [local go_sem] Oper.semAt_some

set_option maxRecDepth 100000 in
set_option maxHeartbeats 4000000 in
theorem appendPl_in (Bm b clk : Nat) (w : World) (hBm : Bm < w.heap.size) (es : List MapEntry) (hes : es.length ≤ 1000000) (hborn : ∀ e ∈ es, e.born < clk) (hnd : (es.map (·.born)).Nodup) (hkey : ∀ e ∈ es, ∃ x y, e.key = .agg #[.int .i64 x, .int .u32 y]) (hm : w.cell? ⟨Bm, 0, none⟩ = some (.map (some b))) (hb : w.heap[b]? = some (.map es.toArray clk)) :
    CallsIn allFc 5 Try.prog 45 #[.slice none 0 0, .func (.func 42) #[] #[.pointer (some ⟨Bm, 0, none⟩)]] w fun e w' =>
      ∃ (v : Value) (xs : List (Int × Int)) (vis : List MapEntry), e = .returned v ∧ vis.Perm es ∧ vis.map (·.key) = xs.map plV ∧ w'.ownsRow w.heap.size 39 2 v xs.length (plCells xs) ∧ Below w.heap.size w w' := by
  refine callsIn_of_wp_marks Try.func45 rfl trivial ?_ rfl
  simp only [Try.ntmps45, List.size_toArray, List.length_cons, List.length_nil, Nat.reduceAdd, Nat.reduceSub, Array.replicate_succ, Array.replicate_zero, List.push_toArray, List.append_toArray, List.nil_append, List.cons_append]
  gi_wp2
  refine wpIn_rangeFunc ?_
  intro fn hfn
  rw [show allFc.round = none from rfl]
  obtain ⟨sv, hsv⟩ : ∃ sv, Value.func (.func 42) #[] #[.pointer (some ⟨Bm, 0, none⟩)] = sv := ⟨_, rfl⟩
  obtain ⟨W0, hW0⟩ : ∃ W0, w.alloc (.cells #[.slice none 0 0] 51) = W0 := ⟨_, rfl⟩
  have hs0 : W0.heap.size = w.heap.size + 1 := by rw [← hW0]; simp
  have hv0 : W0.heap[w.heap.size]? = some (.cells #[.slice none 0 0] 51 (0, 0)) := by rw [← hW0]; exact Go.heap_alloc_new w _
  have hb0 : Below w.heap.size w W0 := by rw [← hW0]; exact (Below.refl _ w).alloc (Nat.le_refl _) _
  have hbl : b < w.heap.size := (Array.getElem?_eq_some_iff.1 hb).1
  rw [hW0]
  obtain ⟨W1, hW1⟩ : ∃ W1, (W0.alloc (.deferred (some []))).alloc (.loop (plRec fn (.func (.func 42) #[] #[.pointer (some ⟨Bm, 0, none⟩)]) w.heap.size W0.heap.size .ready none)) = W1 := ⟨_, rfl⟩
  have hold : ∀ k, k < W0.heap.size → W1.heap[k]? = W0.heap[k]? := fun k hk => by
    rw [← hW1]; exact (Below.heap_alloc _ _ k (by simp; omega)).trans (Below.heap_alloc _ _ k hk)
  have hold0 : ∀ k, k < w.heap.size → W1.heap[k]? = w.heap[k]? := fun k hk => (hold k (by omega)).trans (hb0.block k hk)
  have hb1 : Below w.heap.size w W1 := by rw [← hW1]; exact (hb0.alloc hb0.size _).alloc (by have := hb0.size; simp; omega) _
  have hs1 : W1.heap.size = W0.heap.size + 2 := by rw [← hW1]; simp
  have hM : PlAt w fn (.func (.func 42) #[] #[.pointer (some ⟨Bm, 0, none⟩)]) w.heap.size (W0.heap.size + 1) W0.heap.size [] W1 :=
    ⟨⟨.slice none 0 0, [], rfl, (hold w.heap.size (by omega)).trans hv0, ⟨rfl, .inl ⟨rfl, rfl⟩⟩⟩,
     by rw [← hW1]; have := Go.heap_alloc_new (W0.alloc (.deferred (some []))) (.loop (plRec fn (.func (.func 42) #[] #[.pointer (some ⟨Bm, 0, none⟩)]) w.heap.size W0.heap.size .ready none)); rwa [World.size_alloc] at this,
     by rw [← hW1]; exact (Below.heap_alloc _ _ _ (by simp)).trans (Go.heap_alloc_new W0 _), hb1⟩
  have hen : ∀ args u, (callFunc 42 args).run Try.prog u = .ok (.enter 42 args) u := enters_of Try.func42 (by kernel_rfl) rfl
  refine ⟨W0.heap.size + 1, [{ target := .collected W0.heap.size, args := #[] }], W1, { target := .fn (.func 42) #[.pointer (some ⟨Bm, 0, none⟩)], args := #[.func (.yield (W0.heap.size + 1)) #[] #[]] }, W1, 42,
    #[.func (.yield (W0.heap.size + 1)) #[] #[]] ++ #[.pointer (some ⟨Bm, 0, none⟩)], W1, ?_, ?_, fun _ _ => trivial, ?_, fun _ => by decide, ?_⟩
  · rw [← hW1]; exact run_enterLoop_outer _ _ _ _ _
  · simp [resolve, go_sem]
  · simp [invoke, go_sem, hen]
  · refine (keysPl_in 4 (W0.heap.size + 1) Bm b clk (by decide) es hborn hnd hkey (PlAt w fn (.func (.func 42) #[] #[.pointer (some ⟨Bm, 0, none⟩)]) w.heap.size (W0.heap.size + 1) W0.heap.size) W1 (plAt_abides _ _ _ _ _ _ _ hb1.size)
      (fun pre x W hJ hl hx => ?_) ((World.cell?_of_block (hold0 Bm hBm)).trans hm) ((hold0 b hbl).trans hb) hM).mono ?_
    · obtain ⟨e, he, rfl⟩ := hx
      obtain ⟨x1, x2, hxe⟩ := hkey e he
      rw [hxe]
      exact plYield 3 w fn _ w.heap.size (W0.heap.size + 1) W0.heap.size (by omega) (by omega) (by omega) (Nat.le_refl _) (by omega) es.length hes pre (x1, x2) W hJ hl
    rintro e W2 ⟨⟨v0, rfl⟩, vis, hvis, h2⟩
    obtain ⟨v, xs, hxs, hv, hrow⟩ := h2.box
    have hend := run_endLoop (P := Try.prog) h2.L (by simp [plRec])
    obtain ⟨W3, hW3⟩ : ∃ W3, W2.putObj (W0.heap.size + 1) (.loop { plRec fn (.func (.func 42) #[] #[.pointer (some ⟨Bm, 0, none⟩)]) w.heap.size W0.heap.size .ready none with state := .exhausted }) = W3 := ⟨_, rfl⟩
    rw [hW3] at hend
    have hg3 : W2.grownBy W3 (some (W0.heap.size + 1)) := by rw [← hW3]; exact plPut _ _ _
    have hv3 : W3.heap[w.heap.size]? = some (.cells #[v] 51 (0, 0)) := by rw [← hW3]; exact (World.putObj_heap_other (by omega)).trans hv
    have hK3 : W3.heap[W0.heap.size]? = some (.deferred (some [])) := by rw [← hW3]; exact (World.putObj_heap_other (by omega)).trans h2.K
    have hrow3 := hrow.kept hg3 (plRow_ne hrow h2.L (fun cur e => by cases e))
    have hb3 : Below w.heap.size w W3 := h2.below.grown hg3 h2.below.size (fun k e => by cases e; omega)
    obtain ⟨hc3, hf3⟩ := plBox hv3
    clear hW3
    refine ⟨none, W3, hend, ?_⟩
    gi_wp2
    rw [← hs0]
    refine ⟨by simp, .inl ⟨_, _, rfl, run_takeDeferred hK3, ?_⟩⟩
    exact ⟨_, results_tmp rfl _ _ _, v, xs, vis, rfl, hvis, hxs, hrow3.kept (plPut _ _ _) (plRow_ne hrow3 hK3 (fun cur e => by cases e)), hb3.grown (plPut _ _ _) hb3.size (fun k e => by cases e; omega)⟩
set_option maxRecDepth 100000 in
set_option maxHeartbeats 1000000 in
theorem collectPl_in (Bm b clk : Nat) (w : World) (hBm : Bm < w.heap.size) (es : List MapEntry) (hes : es.length ≤ 1000000) (hborn : ∀ e ∈ es, e.born < clk) (hnd : (es.map (·.born)).Nodup) (hkey : ∀ e ∈ es, ∃ x y, e.key = .agg #[.int .i64 x, .int .u32 y]) (hm : w.cell? ⟨Bm, 0, none⟩ = some (.map (some b))) (hb : w.heap[b]? = some (.map es.toArray clk)) :
    CallsIn allFc 6 Try.prog 40 #[.func (.func 42) #[] #[.pointer (some ⟨Bm, 0, none⟩)]] w fun e w' =>
      ∃ (v : Value) (xs : List (Int × Int)) (vis : List MapEntry), e = .returned v ∧ vis.Perm es ∧ vis.map (·.key) = xs.map plV ∧ w'.ownsRow w.heap.size 39 2 v xs.length (plCells xs) ∧ Below w.heap.size w w' := by
  refine callsIn_of_wp Try.func40 rfl trivial ?_ rfl
  simp only [Try.ntmps40, List.size_toArray, List.length_cons, List.length_nil, Nat.reduceAdd, Nat.reduceSub, Array.replicate_succ, Array.replicate_zero, List.push_toArray, List.append_toArray, List.nil_append, List.cons_append]
  have hen : ∀ args u, (callFunc 45 args).run Try.prog u = .ok (.enter 45 args) u := enters_of Try.func45 (by kernel_rfl) rfl
  gi_wp2_with (gi_at_call 45; refine (appendPl_in Bm b clk _ hBm es hes hborn hnd hkey hm hb).mono ?_; rintro e w' ⟨v, xs, vis, rfl, h1, h2, h3, h4⟩)
  go_ret
  exact ⟨v, xs, vis, rfl, h1, h2, h3, h4⟩
end Go.Proofs.Ytjgihniedhmpeaa
