/-
  Rows of structs that hold rows, that come in, read by value; steps. No condition beyond the reading.
  The frame of a law over a seat with listed variables: what comes in, the witness's world, the row. Conditions: the listed variables are the two tables of unicode/utf8.
-/
import Derived.Test.YtbjhkhhbdlnfbaaGreatDoorLaw
import Derived.Test.YtbjhkhhbdlnfbaaGreatDoorReadsK
import Derived.Test.YtbjhkhhbdlnfbaaGreatDoorK6
import Derived.Test.YtbjhkhhbdlnfbaaGreatDoorK9
import Derived.Test.YtbjhkhhbdlnfbaaGreatDoorCards
import Derived.Test.YtbjhkhhbdlnfbaaGreatDoorTie
import Derived.LaidMore
import Derived.LaidHandle
import Derived.ChangeMaps5
import Derived.SevenTiedAt
namespace Go.Proofs.YtbjhkhhbdlnfbaaGreatDoor.V
open Go.ChangeShapes Go.WideShapes Go.ChangeAt Go.RowKit Go.Deep

section
variable {H : Type} {enc : TypeId × Value → H} {W : World} {P : Program}

end

section
variable {H : Type} {enc : TypeId × Value → H} {W : World}
instance : Inhabited Stp := ⟨zeroS⟩
end
end Go.Proofs.YtbjhkhhbdlnfbaaGreatDoor.V
namespace Go.Proofs.YtbjhkhhbdlnfbaaGreatDoor.V
open Go.ChangeShapes Go.WideShapes Go.ChangeAt Go.RowKit

section
variable {H : Type} {enc : TypeId × Value → H} {W : World}
end
theorem lives41_fn : Fn Tryz.prog 13 [] fun d => d = boolD true := by
  refine ⟨⟨_, Tryz.func13, rfl⟩, fun w B args' hB hr => ?_⟩
  match args', hr with
  | _ :: _, hr => have := hr.1; simp at this
  | [], hr => exact (qscalls w).mono fun e w' ⟨h1, h2⟩ => ⟨_, _, rfl, h1, h2, .v⟩
end Go.Proofs.YtbjhkhhbdlnfbaaGreatDoor.V

namespace Go.Proofs.YtbjhkhhbdlnfbaaGreatDoor
open Go.ChangeShapes Go.WideShapes Go.ChangeAt Go.RowKit

abbrev doorLaidList : List (String × DataW Unit) := [("unicode/utf8.acceptRanges", Rows.laid_unicode_utf8_acceptRanges), ("unicode/utf8.first", Rows.laid_unicode_utf8_first)]
noncomputable def doorWorld (os : Os) : World :=
  let w0 := World.holding Tryz.prog os ⟨#[], #[], []⟩
  let put (h : Array Obj) (g : Nat) (cs : Array Value) : Array Obj := h.modify g fun
    | .cells _ t frozen => .cells cs t frozen
    | o => o
  let u8s (d : DataW Unit) : List Value := match d with
    | .agg ps => ps.flatMap fun
      | .lit (.int .u8 z) => [.int .u8 z]
      | .agg qs => qs.flatMap fun
        | .lit (.int .u8 z) => [.int .u8 z]
        | _ => []
      | _ => []
    | _ => []
  { w0 with heap := put (put w0.heap 1 (u8s Rows.laid_unicode_utf8_first).toArray) 2 (u8s Rows.laid_unicode_utf8_acceptRanges).toArray }
theorem door_met (os : Os) (args : Array Value) : laidMetH Tryz.prog doorLaidList ((doorWorld os).forCall (fun _ _ => 0) ⟨#[], args, []⟩).memory :=
  laidMetH_of_parts3 (fuel := 8) (laidMet_of_run' 8 (by kernel_rfl) (by kernel_rfl)) (by kernel_rfl) (by kernel_rfl)

set_option maxRecDepth 100000 in
theorem law_lifted_door {f : FuncId} {fn : Func} {s : ChangeSpec} {T : TypeId} (hfn : Tryz.prog.funcs[f]? = some fn) (noInit : Tryz.prog.inits.idxOf? f = none)
    (hvars : s.vars = []) (hres : fn.resultTypes = #[T]) (hT : Tryz.prog.underlying T = some .bool) (hreads : lawReads Tryz.prog fn.params.toList = true)
    (os : Os) (started : os.Started) (H : Type) (enc : TypeId × Value → H)
    (hs : ∀ ds : List (DataW H), ds.length = fn.params.toList.length → (s.fn H ds).results = [.lit (.bool true)] ∧ (s.fn H ds).args = ds ∧ (s.fn H ds).vars = [])
    (witness : ∃ (w : World) (tape : Tape) (i : Input), w.os = os ∧ (w.forCall tape i).Shaped Tryz.prog ∧ i.vars = [] ∧ Input.okWide Tryz.prog (w.forCall tape i) .any w.heap.size f i ∧
      ((s.pre enc Tryz.prog fn [] false (w.forCall tape i).memory i.args ∧ laidMetH Tryz.prog doorLaidList (w.forCall tape i).memory) ∧ sizedMet enc Tryz.prog fn (OpenSpec.ofChange s) false (w.forCall tape i).memory i.args) ∧ ({ modest := false } : Assume).holds Tryz.prog (lone (Frame.enter Tryz.prog f i.args .normal) [] (w.forCall tape i)))
    (walk : ∀ (W : World) (base : Nat) (args : Array Value) (ds : List (DataW H)) (p : List MemPlace),
      (∀ (j : Nat) t v, fn.params[j]? = some t → args[j]? = some v → Value.okWide Tryz.prog W .any base t v) →
      DataW.TrodAll enc Tryz.prog W 0 (fun _ => true) true fn.params.toList args.toList ds p →
      Calls Tryz.prog f args W fun e W' => e = .returned (.bool true) ∧ Below W.heap.size W W') :
    ReturnsInHanded {} Tryz.checked os f .any (fun w args => (s.pre enc Tryz.prog fn [] false w args ∧ laidMetH Tryz.prog doorLaidList w) ∧ sizedMet enc Tryz.prog fn (OpenSpec.ofChange s) false w args) (s.post enc Tryz.prog fn false true false false) := by
  refine returnsInHanded_of_change_and (C := Tryz.checked) (X := fun w _ => laidMetH Tryz.prog doorLaidList w) (fun _ _ _ hh h => h.of_heap hh) law_own started noInit hfn witness ?_
  intro W base args ds gs before hval0 hW hcnd _ _ _
  have hval : ∀ (j : Nat) t v, fn.params[j]? = some t → args[j]? = some v → Value.okWide Tryz.prog W .any base t v := hval0
  have hW' := hW
  obtain ⟨p, q, hA0, hV, rfl, hfz, hnd⟩ := hW
  have hA : DataW.TrodAll enc Tryz.prog W 0 (fun _ => true) true fn.params.toList args.toList ds p := hA0
  rw [hvars] at hV
  obtain ⟨rfl, rfl⟩ := trodVars_none hV
  have hlen : ∀ (ts : List TypeId) (vs : List Value) (ds : List (DataW H)) (ps : List MemPlace), DataW.TrodAll enc Tryz.prog W 0 (fun _ => true) true ts vs ds ps → ds.length = ts.length := by
    intro ts
    induction ts with
    | nil => intro vs ds ps h; obtain ⟨rfl, rfl, rfl⟩ := trodAll_nil h; rfl
    | cons t ts ih =>
      intro vs ds ps h
      obtain ⟨v, vs', d, ds', p, q, rfl, rfl, rfl, h1, h2⟩ := trodAll_cons h
      simp [ih _ _ _ h2]
  have hl := hlen _ _ _ _ hA
  obtain ⟨r1, r2, r3⟩ := hs ds hl
  refine (walk W base args ds p hval hA).mono fun e W' ⟨he, hb⟩ => ?_
  subst he
  refine ⟨_, rfl, ds, [], _, [], p, [], hW', ?_, ?_, ?_, hb.frame _, fun h => by cases h⟩
  · rw [hres]
    simp only [List.append_nil]
    rw [r1]
    exact trodAll_mk1 (shut_bool hT true)
  · simp only [List.append_nil]
    rw [r2]
    exact law_below_all law_laidOut hb _ hreads _ _ _ hA
  · simp only [List.append_nil]
    rw [r3, hvars]
    exact rfl
def doorZeros (P : Program) (fn : Func) : Array Value := fn.params.map fun t => match P.info? t with
  | some i => i.zero.getD undef
  | none => undef
end Go.Proofs.YtbjhkhhbdlnfbaaGreatDoor
