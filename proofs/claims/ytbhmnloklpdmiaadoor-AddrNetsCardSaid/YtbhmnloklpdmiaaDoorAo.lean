/-
  The frame of a law over a seat with listed variables: what comes in, the witness's world, the row. Conditions: the listed variables are the two tables of unicode/utf8.
-/
import Derived.Test.YtbhmnloklpdmiaaDoorLaw
import Derived.Test.YtbhmnloklpdmiaaDoorReads
import Derived.Test.YtbhmnloklpdmiaaDoorAn
import Derived.Test.YtbhmnloklpdmiaaDoorCards
import Derived.Test.YtbhmnloklpdmiaaDoorTie
import Derived.LaidMore
import Derived.LaidHandle
import Derived.ChangeMaps5
import Derived.SevenTiedAt
namespace Go.Proofs.YtbhmnloklpdmiaaDoor.V
open Go.ChangeShapes Go.WideShapes Go.ChangeAt Go.RowKit

section
variable {H : Type} {enc : TypeId × Value → H} {W : World}
theorem okWide_array {P : Program} {t e : TypeId} {n base : Nat} {w : World} {r : Reach} {v : Value} (ht : P.underlying t = some (.array n e)) (h : Value.okWide P w r base t v) : ∃ cs, v = .agg cs ∧ cs.size = P.cellsOf t := by
  simp only [Value.okWide, ht] at h
  obtain ⟨cs, h1, h2, _⟩ := h
  exact ⟨cs, h1, h2⟩
set_option maxRecDepth 100000 in
theorem mac_read {base : Nat} {v : Value} {d : DataW H} {ps : List MemPlace} (hval : Value.okWide Tryd.prog W .any base 33 v) (h : DataW.Trod enc Tryd.prog W 0 (fun _ => true) true 33 v d ps) :
    ∃ m : List Nat, Rep (baseCtx W fun b => b < W.heap.size) (.agg (macD m)) v ∧ MacOk m := by
  obtain ⟨cs, rfl, hn⟩ := okWide_array Tryd.underlying33 hval
  obtain ⟨fuel, hf⟩ := h
  have hn2 : cs.size = 6 := hn.trans (by kernel_rfl)
  simp only [Value.cells] at hf
  obtain ⟨z, hz⟩ := trod_kinds (d := 3) [.u8, .u8, .u8, .u8, .u8, .u8] (by kernel_rfl) hf
  have hb : ∀ j, j < 6 → ∃ x : Nat, x < 256 ∧ z j = x ∧ cs.toList[j]? = some (.int .u8 x) := fun j hj => by
    have hk : ([.u8, .u8, .u8, .u8, .u8, .u8] : List IntKind)[j]? = some .u8 := by
      rcases (by omega : j = 0 ∨ j = 1 ∨ j = 2 ∨ j = 3 ∨ j = 4 ∨ j = 5) with rfl | rfl | rfl | rfl | rfl | rfl <;> rfl
    obtain ⟨h1, h2⟩ := hz j _ hk
    have h3 := wf_u8 h2
    exact ⟨(z j).toNat, by omega, by omega, by rw [h1]; congr 2; omega⟩
  obtain ⟨a, ha, _, a2⟩ := hb 0 (by decide)
  obtain ⟨b, hb1, _, b2⟩ := hb 1 (by decide)
  obtain ⟨c, hc, _, c2⟩ := hb 2 (by decide)
  obtain ⟨d, hd, _, d2⟩ := hb 3 (by decide)
  obtain ⟨e, he, _, e2⟩ := hb 4 (by decide)
  obtain ⟨f, hf, _, f2⟩ := hb 5 (by decide)
  refine ⟨[a, b, c, d, e, f], .agg (by rw [hn2]; rfl) fun j d u hd hu => ?_, .mk6 ha hb1 hc hd he hf⟩
  rw [← Array.getElem?_toList] at hu
  match j, hd, hu with
  | 0, hd, hu => rw [a2] at hu; injection hd with hd; injection hu with hu; subst hd hu; exact .v
  | 1, hd, hu => rw [b2] at hu; injection hd with hd; injection hu with hu; subst hd hu; exact .v
  | 2, hd, hu => rw [c2] at hu; injection hd with hd; injection hu with hu; subst hd hu; exact .v
  | 3, hd, hu => rw [d2] at hu; injection hd with hd; injection hu with hu; subst hd hu; exact .v
  | 4, hd, hu => rw [e2] at hu; injection hd with hd; injection hu with hu; subst hd hu; exact .v
  | 5, hd, hu => rw [f2] at hu; injection hd with hd; injection hu with hu; subst hd hu; exact .v
  | n + 6, hd, _ => simp [macD] at hd
theorem u32_read {base : Nat} {v : Value} {d : DataW H} {ps : List MemPlace} (hval : Value.okWide Tryd.prog W .any base 22 v) (h : DataW.Trod enc Tryd.prog W 0 (fun _ => true) true 22 v d ps) :
    ∃ n : Nat, Rep (baseCtx W fun b => b < W.heap.size) (u32D n) v ∧ n < 4294967296 := by
  obtain ⟨n, rfl, _, _, wf⟩ := open_int Tryd.underlying22 hval h
  have := wf_u32 wf
  refine ⟨n.toNat, ?_, by omega⟩
  rw [show ((n.toNat : Nat) : Int) = n by omega]
  exact .v
theorem int_read {base : Nat} {v : Value} {d : DataW H} {ps : List MemPlace} (hval : Value.okWide Tryd.prog W .any base 3 v) (h : DataW.Trod enc Tryd.prog W 0 (fun _ => true) true 3 v d ps) :
    ∃ n : Int, Rep (baseCtx W fun b => b < W.heap.size) (intD n) v ∧ -9223372036854775808 ≤ n := by
  obtain ⟨n, rfl, _, _, wf⟩ := open_int Tryd.underlying3 hval h
  have := wf_i64 wf
  exact ⟨n, .v, this.1⟩
theorem str_read {base : Nat} {v : Value} {d : DataW H} {ps : List MemPlace} (hval : Value.okWide Tryd.prog W .any base 9 v) (h : DataW.Trod enc Tryd.prog W 0 (fun _ => true) true 9 v d ps) :
    ∃ l : List Nat, Rep (baseCtx W fun b => b < W.heap.size) (strD l) v ∧ Byt l := by
  obtain ⟨s, rfl, _, _, _⟩ := Go.ChangeMaps.open_string Tryd.underlying9 hval h
  obtain ⟨l, h1, rfl⟩ := strB_all s
  exact ⟨l, .v, h1⟩
end
end Go.Proofs.YtbhmnloklpdmiaaDoor.V

namespace Go.Proofs.YtbhmnloklpdmiaaDoor
open Go.ChangeShapes Go.WideShapes Go.ChangeAt Go.RowKit

abbrev doorLaidList : List (String × DataW Unit) := [("unicode/utf8.acceptRanges", Rows.laid_unicode_utf8_acceptRanges), ("unicode/utf8.first", Rows.laid_unicode_utf8_first)]
/-- A world in which the two tables lie as the library's text lays them. -/
noncomputable def doorWorld (os : Os) : World :=
  let w0 := World.holding Tryd.prog os ⟨#[], #[], []⟩
  let put (h : Array Obj) (g : Nat) (cs : Array Value) : Array Obj := h.modify g fun
    | .cells _ t frozen => .cells cs t frozen
    | o => o
  let u8s (d : DataW Unit) : List Value := match d with
    | .agg ps => ps.flatMap fun
      | .lit (.int .u8 z) => [.int .u8 z]
      | .agg qs => qs.flatMap fun
        | .lit (.int .u8 z) => [.int .u8 z]
        | _ => []
      | _ => []
    | _ => []
  { w0 with heap := put (put w0.heap 1 (u8s Rows.laid_unicode_utf8_first).toArray) 2 (u8s Rows.laid_unicode_utf8_acceptRanges).toArray }
theorem door_met (os : Os) (args : Array Value) : laidMetH Tryd.prog doorLaidList ((doorWorld os).forCall (fun _ _ => 0) ⟨#[], args, []⟩).memory :=
  laidMetH_of_parts3 (fuel := 8) (laidMet_of_run' 8 (by kernel_rfl) (by kernel_rfl)) (by kernel_rfl) (by kernel_rfl)

set_option maxRecDepth 100000 in
theorem law_lifted_door {f : FuncId} {fn : Func} {s : ChangeSpec} {T : TypeId} (hfn : Tryd.prog.funcs[f]? = some fn) (noInit : Tryd.prog.inits.idxOf? f = none)
    (hvars : s.vars = []) (hres : fn.resultTypes = #[T]) (hT : Tryd.prog.underlying T = some .bool) (hreads : lawReads Tryd.prog fn.params.toList = true)
    (os : Os) (started : os.Started) (H : Type) (enc : TypeId × Value → H)
    (hs : ∀ ds : List (DataW H), ds.length = fn.params.toList.length → (s.fn H ds).results = [.lit (.bool true)] ∧ (s.fn H ds).args = ds ∧ (s.fn H ds).vars = [])
    (witness : ∃ (w : World) (tape : Tape) (i : Input), w.os = os ∧ (w.forCall tape i).Shaped Tryd.prog ∧ i.vars = [] ∧ Input.okWide Tryd.prog (w.forCall tape i) .any w.heap.size f i ∧
      ((s.pre enc Tryd.prog fn [] false (w.forCall tape i).memory i.args ∧ laidMetH Tryd.prog doorLaidList (w.forCall tape i).memory) ∧ sizedMet enc Tryd.prog fn (OpenSpec.ofChange s) false (w.forCall tape i).memory i.args) ∧ ({ modest := false } : Assume).holds Tryd.prog (lone (Frame.enter Tryd.prog f i.args .normal) [] (w.forCall tape i)))
    (walk : ∀ (W : World) (base : Nat) (args : Array Value) (ds : List (DataW H)) (p : List MemPlace),
      (∀ (j : Nat) t v, fn.params[j]? = some t → args[j]? = some v → Value.okWide Tryd.prog W .any base t v) →
      DataW.TrodAll enc Tryd.prog W 0 (fun _ => true) true fn.params.toList args.toList ds p →
      Calls Tryd.prog f args W fun e W' => e = .returned (.bool true) ∧ Below W.heap.size W W') :
    ReturnsInHanded {} Tryd.checked os f .any (fun w args => (s.pre enc Tryd.prog fn [] false w args ∧ laidMetH Tryd.prog doorLaidList w) ∧ sizedMet enc Tryd.prog fn (OpenSpec.ofChange s) false w args) (s.post enc Tryd.prog fn false true false false) := by
  refine returnsInHanded_of_change_and (C := Tryd.checked) (X := fun w _ => laidMetH Tryd.prog doorLaidList w) (fun _ _ _ hh h => h.of_heap hh) law_own started noInit hfn witness ?_
  intro W base args ds gs before hval0 hW hcnd _ _ _
  have hval : ∀ (j : Nat) t v, fn.params[j]? = some t → args[j]? = some v → Value.okWide Tryd.prog W .any base t v := hval0
  have hW' := hW
  obtain ⟨p, q, hA0, hV, rfl, hfz, hnd⟩ := hW
  have hA : DataW.TrodAll enc Tryd.prog W 0 (fun _ => true) true fn.params.toList args.toList ds p := hA0
  rw [hvars] at hV
  obtain ⟨rfl, rfl⟩ := trodVars_none hV
  have hlen : ∀ (ts : List TypeId) (vs : List Value) (ds : List (DataW H)) (ps : List MemPlace), DataW.TrodAll enc Tryd.prog W 0 (fun _ => true) true ts vs ds ps → ds.length = ts.length := by
    intro ts
    induction ts with
    | nil => intro vs ds ps h; obtain ⟨rfl, rfl, rfl⟩ := trodAll_nil h; rfl
    | cons t ts ih =>
      intro vs ds ps h
      obtain ⟨v, vs', d, ds', p, q, rfl, rfl, rfl, h1, h2⟩ := trodAll_cons h
      simp [ih _ _ _ h2]
  have hl := hlen _ _ _ _ hA
  obtain ⟨r1, r2, r3⟩ := hs ds hl
  refine (walk W base args ds p hval hA).mono fun e W' ⟨he, hb⟩ => ?_
  subst he
  refine ⟨_, rfl, ds, [], _, [], p, [], hW', ?_, ?_, ?_, hb.frame _, fun h => by cases h⟩
  · rw [hres]
    simp only [List.append_nil]
    rw [r1]
    exact trodAll_mk1 (shut_bool hT true)
  · simp only [List.append_nil]
    rw [r2]
    exact law_below_all law_laidOut hb _ hreads _ _ _ hA
  · simp only [List.append_nil]
    rw [r3, hvars]
    exact rfl
/-- Zero values: the row's own example. -/
def doorZeros (P : Program) (fn : Func) : Array Value := fn.params.map fun t => match P.info? t with
  | some i => i.zero.getD undef
  | none => undef
end Go.Proofs.YtbhmnloklpdmiaaDoor
