/-
  slices.AppendSeq, slices.Collect over a map's keys. Conditions: the map's entries bear stamps of their own.
-/
import Derived.Test.YtjgihniedhmpeaaCg
namespace Go.Proofs.Ytjgihniedhmpeaa
open Go.RowKit Go.Shelf Go.Maps
attribute [local go_sem] Oper.semAt_some

set_option maxRecDepth 100000 in
set_option maxHeartbeats 4000000 in
theorem appendPl_in (Bm b clk : Nat) (w : World) (hBm : Bm < w.heap.size) (es : List MapEntry) (hes : es.length ≤ 1000000) (hborn : ∀ e ∈ es, e.born < clk) (hnd : (es.map (·.born)).Nodup) (hkey : ∀ e ∈ es, ∃ x y, e.key = .agg #[.int .i64 x, .int .u32 y]) (hm : w.cell? ⟨Bm, 0, none⟩ = some (.map (some b))) (hb : w.heap[b]? = some (.map es.toArray clk)) :
    CallsIn allFc 5 Try.prog 45 #[.slice none 0 0, .func (.func 42) #[] #[.pointer (some ⟨Bm, 0, none⟩)]] w fun e w' =>
      ∃ (v : Value) (xs : List (Int × Int)) (vis : List MapEntry), e = .returned v ∧ vis.Perm es ∧ vis.map (·.key) = xs.map plV ∧ w'.ownsRow w.heap.size 39 2 v xs.length (plCells xs) ∧ Below w.heap.size w w' := by
  refine callsIn_of_wp_marks Try.func45 rfl trivial ?_ rfl
  simp only [Try.ntmps45, List.size_toArray, List.length_cons, List.length_nil, Nat.reduceAdd, Nat.reduceSub, Array.replicate_succ, Array.replicate_zero, List.push_toArray, List.append_toArray, List.nil_append, List.cons_append]
  gi_wp2
  refine wpIn_rangeFunc ?_
  intro fn hfn
  rw [show allFc.round = none from rfl]
  obtain ⟨sv, hsv⟩ : ∃ sv, Value.func (.func 42) #[] #[.pointer (some ⟨Bm, 0, none⟩)] = sv := ⟨_, rfl⟩
  obtain ⟨W0, hW0⟩ : ∃ W0, w.alloc (.cells #[.slice none 0 0] 51) = W0 := ⟨_, rfl⟩
  have hs0 : W0.heap.size = w.heap.size + 1 := by rw [← hW0]; simp
  have hv0 : W0.heap[w.heap.size]? = some (.cells #[.slice none 0 0] 51 (0, 0)) := by rw [← hW0]; exact Go.heap_alloc_new w _
  have hb0 : Below w.heap.size w W0 := by rw [← hW0]; exact (Below.refl _ w).alloc (Nat.le_refl _) _
  have hbl : b < w.heap.size := (Array.getElem?_eq_some_iff.1 hb).1
  rw [hW0]
  obtain ⟨W1, hW1⟩ : ∃ W1, (W0.alloc (.deferred (some []))).alloc (.loop (plRec fn (.func (.func 42) #[] #[.pointer (some ⟨Bm, 0, none⟩)]) w.heap.size W0.heap.size .ready none)) = W1 := ⟨_, rfl⟩
  have hold : ∀ k, k < W0.heap.size → W1.heap[k]? = W0.heap[k]? := fun k hk => by
    rw [← hW1]; exact (Below.heap_alloc _ _ k (by simp; omega)).trans (Below.heap_alloc _ _ k hk)
  have hold0 : ∀ k, k < w.heap.size → W1.heap[k]? = w.heap[k]? := fun k hk => (hold k (by omega)).trans (hb0.block k hk)
  have hb1 : Below w.heap.size w W1 := by rw [← hW1]; exact (hb0.alloc hb0.size _).alloc (by have := hb0.size; simp; omega) _
  have hs1 : W1.heap.size = W0.heap.size + 2 := by rw [← hW1]; simp
  have hM : PlAt w fn (.func (.func 42) #[] #[.pointer (some ⟨Bm, 0, none⟩)]) w.heap.size (W0.heap.size + 1) W0.heap.size [] W1 :=
    ⟨⟨.slice none 0 0, [], rfl, (hold w.heap.size (by omega)).trans hv0, ⟨rfl, .inl ⟨rfl, rfl⟩⟩⟩,
     by rw [← hW1]; have := Go.heap_alloc_new (W0.alloc (.deferred (some []))) (.loop (plRec fn (.func (.func 42) #[] #[.pointer (some ⟨Bm, 0, none⟩)]) w.heap.size W0.heap.size .ready none)); rwa [World.size_alloc] at this,
     by rw [← hW1]; exact (Below.heap_alloc _ _ _ (by simp)).trans (Go.heap_alloc_new W0 _), hb1⟩
  have hen : ∀ args u, (callFunc 42 args).run Try.prog u = .ok (.enter 42 args) u := enters_of Try.func42 (by kernel_rfl) rfl
  refine ⟨W0.heap.size + 1, [{ target := .collected W0.heap.size, args := #[] }], W1, { target := .fn (.func 42) #[.pointer (some ⟨Bm, 0, none⟩)], args := #[.func (.yield (W0.heap.size + 1)) #[] #[]] }, W1, 42,
    #[.func (.yield (W0.heap.size + 1)) #[] #[]] ++ #[.pointer (some ⟨Bm, 0, none⟩)], W1, ?_, ?_, fun _ _ => trivial, ?_, fun _ => by decide, ?_⟩
  · rw [← hW1]; exact run_enterLoop_outer _ _ _ _ _
  · simp [resolve, go_sem]
  · simp [invoke, go_sem, hen]
  · refine (keysPl_in 4 (W0.heap.size + 1) Bm b clk (by decide) es hborn hnd hkey (PlAt w fn (.func (.func 42) #[] #[.pointer (some ⟨Bm, 0, none⟩)]) w.heap.size (W0.heap.size + 1) W0.heap.size) W1 (plAt_abides _ _ _ _ _ _ _ hb1.size)
      (fun pre x W hJ hl hx => ?_) ((World.cell?_of_block (hold0 Bm hBm)).trans hm) ((hold0 b hbl).trans hb) hM).mono ?_
    · obtain ⟨e, he, rfl⟩ := hx
      obtain ⟨x1, x2, hxe⟩ := hkey e he
      rw [hxe]
      exact plYield 3 w fn _ w.heap.size (W0.heap.size + 1) W0.heap.size (by omega) (by omega) (by omega) (Nat.le_refl _) (by omega) es.length hes pre (x1, x2) W hJ hl
    rintro e W2 ⟨⟨v0, rfl⟩, vis, hvis, h2⟩
    obtain ⟨v, xs, hxs, hv, hrow⟩ := h2.box
    have hend := run_endLoop (P := Try.prog) h2.L (by simp [plRec])
    obtain ⟨W3, hW3⟩ : ∃ W3, W2.putObj (W0.heap.size + 1) (.loop { plRec fn (.func (.func 42) #[] #[.pointer (some ⟨Bm, 0, none⟩)]) w.heap.size W0.heap.size .ready none with state := .exhausted }) = W3 := ⟨_, rfl⟩
    rw [hW3] at hend
    have hg3 : W2.grownBy W3 (some (W0.heap.size + 1)) := by rw [← hW3]; exact plPut _ _ _
    have hv3 : W3.heap[w.heap.size]? = some (.cells #[v] 51 (0, 0)) := by rw [← hW3]; exact (World.putObj_heap_other (by omega)).trans hv
    have hK3 : W3.heap[W0.heap.size]? = some (.deferred (some [])) := by rw [← hW3]; exact (World.putObj_heap_other (by omega)).trans h2.K
    have hrow3 := hrow.kept hg3 (plRow_ne hrow h2.L (fun cur e => by cases e))
    have hb3 : Below w.heap.size w W3 := h2.below.grown hg3 h2.below.size (fun k e => by cases e; omega)
    obtain ⟨hc3, hf3⟩ := plBox hv3
    clear hW3
    refine ⟨none, W3, hend, ?_⟩
    gi_wp2
    rw [← hs0]
    refine ⟨by simp, .inl ⟨_, _, rfl, run_takeDeferred hK3, ?_⟩⟩
    exact ⟨_, results_tmp rfl _ _ _, v, xs, vis, rfl, hvis, hxs, hrow3.kept (plPut _ _ _) (plRow_ne hrow3 hK3 (fun cur e => by cases e)), hb3.grown (plPut _ _ _) hb3.size (fun k e => by cases e; omega)⟩
set_option maxRecDepth 100000 in
set_option maxHeartbeats 1000000 in
theorem collectPl_in (Bm b clk : Nat) (w : World) (hBm : Bm < w.heap.size) (es : List MapEntry) (hes : es.length ≤ 1000000) (hborn : ∀ e ∈ es, e.born < clk) (hnd : (es.map (·.born)).Nodup) (hkey : ∀ e ∈ es, ∃ x y, e.key = .agg #[.int .i64 x, .int .u32 y]) (hm : w.cell? ⟨Bm, 0, none⟩ = some (.map (some b))) (hb : w.heap[b]? = some (.map es.toArray clk)) :
    CallsIn allFc 6 Try.prog 40 #[.func (.func 42) #[] #[.pointer (some ⟨Bm, 0, none⟩)]] w fun e w' =>
      ∃ (v : Value) (xs : List (Int × Int)) (vis : List MapEntry), e = .returned v ∧ vis.Perm es ∧ vis.map (·.key) = xs.map plV ∧ w'.ownsRow w.heap.size 39 2 v xs.length (plCells xs) ∧ Below w.heap.size w w' := by
  refine callsIn_of_wp Try.func40 rfl trivial ?_ rfl
  simp only [Try.ntmps40, List.size_toArray, List.length_cons, List.length_nil, Nat.reduceAdd, Nat.reduceSub, Array.replicate_succ, Array.replicate_zero, List.push_toArray, List.append_toArray, List.nil_append, List.cons_append]
  have hen : ∀ args u, (callFunc 45 args).run Try.prog u = .ok (.enter 45 args) u := enters_of Try.func45 (by kernel_rfl) rfl
  gi_wp2_with (gi_at_call 45; refine (appendPl_in Bm b clk _ hBm es hes hborn hnd hkey hm hb).mono ?_; rintro e w' ⟨v, xs, vis, rfl, h1, h2, h3, h4⟩)
  go_ret
  exact ⟨v, xs, vis, rfl, h1, h2, h3, h4⟩
end Go.Proofs.Ytjgihniedhmpeaa
