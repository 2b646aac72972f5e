/-
  The frame of a law whose statement bounds what comes in. No condition.
-/
import Derived.Test.YtghfefkmmobmgaaLaw
import Derived.JoinedCond
import Derived.Deep.Slices
namespace Go.Proofs.Ytghfefkmmobmgaa
open Go.ChangeShapes Go.WideShapes Go.ChangeAt Go.RowKit

theorem bulk_pos {H : Type} (d : DataW H) : 1 ≤ Rows.uptoBulk d := by
  cases d with
  | lit l => cases l <;> simp [Rows.uptoBulk]
  | nil => simp [Rows.uptoBulk]
  | ptr d => simp [Rows.uptoBulk]
  | slice elems spare => simp [Rows.uptoBulk]
  | agg parts => simp [Rows.uptoBulk]
  | iface t d => simp [Rows.uptoBulk]
  | map entries => simp [Rows.uptoBulk]
  | held h => simp [Rows.uptoBulk]
theorem bulk_len {H : Type} : ∀ l : List (DataW H), l.length ≤ Rows.uptoBulkAll l
  | [] => by simp [Rows.uptoBulkAll]
  | x :: r => by have := bulk_len r; have := bulk_pos x; simp only [Rows.uptoBulkAll, List.length_cons]; omega
/-- A slice that came in has no more elements than its bulk. -/
theorem bulk_slice {H : Type} {enc : TypeId × Value → H} {W : World} {P : Program} {t el : TypeId} (ht : P.underlying t = some (.slice el)) {fuel n c : Nat} {p : Option Addr} {x : DataW H × List MemPlace}
    (h : DataW.trod enc P W 0 (fun _ => true) true fuel t [.slice p n c] = some x) : n ≤ Rows.uptoBulk x.1 := by
  rcases Go.Deep.open_slice ht h with ⟨h1, _⟩ | ⟨a, len, cap, m, k, Dd, Pl, h1, _, _, _, _, h2, _⟩
  · simp only [List.cons.injEq, and_true, Value.slice.injEq] at h1
    obtain ⟨_, rfl, _⟩ := h1
    exact Nat.zero_le _
  · simp only [List.cons.injEq, and_true, Value.slice.injEq] at h1
    obtain ⟨_, rfl, _⟩ := h1
    rw [h2]
    simp only [Rows.uptoBulk]
    have := bulk_len ((List.range n).map Dd)
    rw [List.length_map, List.length_range] at this
    omega

set_option maxRecDepth 100000 in
theorem law_lifted_upto {f : FuncId} {fn : Func} {s : ChangeSpec} {T : TypeId} (hfn : Try.prog.funcs[f]? = some fn) (noInit : Try.prog.inits.idxOf? f = none)
    (hvars : s.vars = []) (hres : fn.resultTypes = #[T]) (hT : Try.prog.underlying T = some .bool) (hreads : lawReads Try.prog fn.params.toList = true)
    (os : Os) (started : os.Started) (H : Type) (enc : TypeId × Value → H) (F : Stop.Interp)
    (hs : ∀ ds : List (DataW H), ds.length = fn.params.toList.length → (s.fn H ds).results = [.lit (.bool true)] ∧ (s.fn H ds).args = ds ∧ (s.fn H ds).vars = [])
    (witness : ∃ (w : World) (tape : Tape) (i : Input), w.os = os ∧ (w.forCall tape i).Shaped Try.prog ∧ i.vars = [] ∧ Input.okWide Try.prog (w.forCall tape i) .any w.heap.size f i ∧
      (Rows.OpenSpec.upto s).pre6 enc Try.prog fn [] false (w.forCall tape i).memory i.args ∧ ({} : Assume).holds Try.prog (lone (Frame.enter Try.prog f i.args .normal) [] (w.forCall tape i)))
    (walk : ∀ (W : World) (base : Nat) (args : Array Value) (ds : List (DataW H)) (p : List MemPlace), Rows.uptoBulkAll ds ≤ 1048576 →
      (∀ (j : Nat) t v, fn.params[j]? = some t → args[j]? = some v → Value.okWide Try.prog W .any base t v) →
      DataW.TrodAll enc Try.prog W 0 (fun _ => true) true fn.params.toList args.toList ds p →
      Calls Try.prog f args W fun e W' => e = .returned (.bool true) ∧ Below W.heap.size W W') :
    ReturnsInHanded {} Try.checked os f .any ((Rows.OpenSpec.upto s).pre6 enc Try.prog fn [] false) (((Rows.OpenSpec.upto s).at F).post enc Try.prog fn false true false false) := by
  refine returnsInHanded_of_cond (C := Try.checked) (s := Rows.OpenSpec.upto s) (k := Rows.uptoSmall) rfl law_own started noInit hfn witness ?_
  intro W base args ds gs before hval0 hW hcnd hk _
  have hval : ∀ (j : Nat) t v, fn.params[j]? = some t → args[j]? = some v → Value.okWide Try.prog W .any base t v := hval0
  have hW' := hW
  obtain ⟨p, q, hA0, hV, rfl, hfz, hnd⟩ := hW
  have hA : DataW.TrodAll enc Try.prog W 0 (fun _ => true) true fn.params.toList args.toList ds p := hA0
  have hV : DataW.TrodVars enc Try.prog W (fun _ => true) s.vars gs q := hV
  rw [hvars] at hV
  obtain ⟨rfl, rfl⟩ := trodVars_none hV
  have hlen : ∀ (ts : List TypeId) (vs : List Value) (ds : List (DataW H)) (ps : List MemPlace), DataW.TrodAll enc Try.prog W 0 (fun _ => true) true ts vs ds ps → ds.length = ts.length := by
    intro ts
    induction ts with
    | nil => intro vs ds ps h; obtain ⟨rfl, rfl, rfl⟩ := trodAll_nil h; rfl
    | cons t ts ih =>
      intro vs ds ps h
      obtain ⟨v, vs', d, ds', p, q, rfl, rfl, rfl, h1, h2⟩ := trodAll_cons h
      simp [ih _ _ _ h2]
  have hl := hlen _ _ _ _ hA
  obtain ⟨r1, r2, r3⟩ := hs ds hl
  have hk2 : Rows.uptoBulkAll ds ≤ 1048576 := by rw [List.append_nil] at hk; exact of_decide_eq_true hk
  refine (walk W base args ds p hk2 hval hA).mono fun e W' ⟨he, hb⟩ => ?_
  subst he
  refine ⟨_, rfl, ds, [], _, [], p, [], hW', ?_, ?_, ?_, hb.frame _, fun h => by cases h⟩
  · rw [hres]
    simp only [List.append_nil]
    show DataW.TrodAll _ _ _ _ _ _ _ _ (s.fn H ds).results _
    rw [r1]
    exact trodAll_mk1 (shut_bool hT true)
  · simp only [List.append_nil]
    show DataW.TrodAll _ _ _ _ _ _ _ _ (s.fn H ds).args _
    rw [r2]
    exact law_below_all law_laidOut hb _ hreads _ _ _ hA
  · simp only [List.append_nil]
    show DataW.TrodVars _ _ _ _ s.vars (s.fn H ds).vars _
    rw [r3, hvars]
    exact rfl
end Go.Proofs.Ytghfefkmmobmgaa
