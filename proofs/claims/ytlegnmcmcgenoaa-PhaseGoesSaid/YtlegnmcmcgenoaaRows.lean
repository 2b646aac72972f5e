/-
  No cell of these rows narrows 'for every input' (looked for: loops, veiled, ifaces, maps, wideKeys, modest, calm, conditions, laid).
  DERIVED. THE GIVEN ROWS OF THIS SEAT. 2 by the template 'for every input the law returns true; each argument reads behind the call as it read before'; 0 by the template 'total and deterministic' (their statements: YtlegnmcmcgenoaaTotals.lean).
  GIVEN WITH THE SEED: the statements are not yours to turn. If you find one false, say at which input.
  Laid BY PROGRAM, IN A SANDBOX (cutbox-rows.mjs): the forced cells as the released guide's own fill.sh prints them over the translation 1497bedb0af0b0ba… (all of the seat's roots in one cut). By AI agents, Wed Nov 11 2026. No macro, syntax, notation, axiom, sorry.
-/
import Derived.Test.YtlegnmcmcgenoaaChecked
import GoSem.Claim
import GoSem.ClaimJoined
import GoSem.ClaimMapViews
import Derived.JoinedTies
import Derived.KernelRfl
namespace Go.Proofs.Ytlegnmcmcgenoaa
/- THE CELL 'sum', in the pinned program and in every row, IS THE sha256 OF THE DUMP (.gsa) THAT YtlegnmcmcgenoaaProg.lean LOADS. Nothing in Lean hashes anything: it is a label: what it is worth is what the hold of that sum in a sandbox is worth. -/
noncomputable def Try.pinned : Pinned := { name := "ytlegnmcmcgenoaa", sum := "1497bedb0af0b0ba62b21c6e0eaaf3a5da755f22409d5bbadd12cc4a080f041d", checked := Try.checked }
namespace Rows
def none {H : Type} : Left H := { results := [], args := [] }

/-- 'linkboylaw21.PhaseGone': WHATEVER THE INPUT: true; the input reads as it did. -/
def phaseGoneSpec : ChangeSpec := { name := "phaseGone", fn := fun _ => fun
  | [d] => { results := [.lit (.bool true)], args := [d] }
  | _ => none }
def phaseGoneRow : OpenClaim := { program := "ytlegnmcmcgenoaa", sum := "1497bedb0af0b0ba62b21c6e0eaaf3a5da755f22409d5bbadd12cc4a080f041d", func := "linkboy/linkboylaw21.PhaseGone", spec := "phaseGone", apart := false }
def PhaseGoneSaid : Prop := phaseGoneRow.holds Try.pinned (OpenSpec.ofChange phaseGoneSpec)

/-- ITS FALSE NEIGHBOUR: 'it returns false'. Refute it at one input. -/
def phaseGoneWrong : ChangeSpec := { name := "phaseGone", fn := fun _ => fun
  | [d] => { results := [.lit (.bool false)], args := [d] }
  | _ => none }
def PhaseGoneWrongFalsely : Prop := phaseGoneRow.holds Try.pinned (OpenSpec.ofChange phaseGoneWrong)

/-- 'linkboylaw21.PhaseGoes': WHATEVER THE INPUT: true; the input reads as it did. -/
def phaseGoesSpec : ChangeSpec := { name := "phaseGoes", fn := fun _ => fun
  | [d1, d2, d3] => { results := [.lit (.bool true)], args := [d1, d2, d3] }
  | _ => none }
def phaseGoesRow : OpenClaim := { program := "ytlegnmcmcgenoaa", sum := "1497bedb0af0b0ba62b21c6e0eaaf3a5da755f22409d5bbadd12cc4a080f041d", func := "linkboy/linkboylaw21.PhaseGoes", spec := "phaseGoes", apart := false }
def PhaseGoesSaid : Prop := phaseGoesRow.holds Try.pinned (OpenSpec.ofChange phaseGoesSpec)

/-- ITS FALSE NEIGHBOUR: 'it returns false'. Refute it at one input. -/
def phaseGoesWrong : ChangeSpec := { name := "phaseGoes", fn := fun _ => fun
  | [d1, d2, d3] => { results := [.lit (.bool false)], args := [d1, d2, d3] }
  | _ => none }
def PhaseGoesWrongFalsely : Prop := phaseGoesRow.holds Try.pinned (OpenSpec.ofChange phaseGoesWrong)

/- THE SECOND FORM. 'bulk': how many values and letters a reading holds, each counted each time it is reached (what is shared counts as often as it is met; a slice's spare places count too). A statement '..UptoSaid' is the law's where the arguments, and the package variables that the reading takes, are together of bulk at most 1048576: NARROWER than '..Said'. Prove '..Said' where nothing that the law and all that it calls make is longer than what came in: it says more and counts as full. Else prove '..UptoSaid'. A law counts once. -/
mutual
def uptoBulk {H : Type} : DataW H → Nat
  | .lit (.string bytes) => bytes.length + 1
  | .lit _ => 1
  | .nil => 1
  | .ptr d => uptoBulk d + 1
  | .slice elems spare => uptoBulkAll elems + uptoBulkAll spare + 1
  | .agg parts => uptoBulkAll parts + 1
  | .iface _ d => uptoBulk d + 1
  | .map entries => uptoBulkEntries entries + 1
  | .held _ => 1
def uptoBulkAll {H : Type} : List (DataW H) → Nat
  | [] => 0
  | d :: r => uptoBulk d + uptoBulkAll r
def uptoBulkEntries {H : Type} : List (Lit × DataW H) → Nat
  | [] => 0
  | x :: r => uptoBulkEntry x + uptoBulkEntries r
def uptoBulkEntry {H : Type} : Lit × DataW H → Nat
  | (.string bytes, d) => bytes.length + uptoBulk d + 1
  | (_, d) => uptoBulk d + 1
 end
def uptoSmall : (H : Type) → List (DataW H) → Bool := fun _ ds => decide (uptoBulkAll ds ≤ 1048576)
def OpenSpec.upto (s : _root_.Go.ChangeSpec) : _root_.Go.OpenSpec := { _root_.Go.OpenSpec.ofChange s with cond := some uptoSmall }

/-- 'linkboylaw21.PhaseGone', WHERE WHAT IT READS IS OF BULK AT MOST 1048576: true; the input reads as it did. -/
def phaseGoneUptoRow : OpenClaim := { program := "ytlegnmcmcgenoaa", sum := "1497bedb0af0b0ba62b21c6e0eaaf3a5da755f22409d5bbadd12cc4a080f041d", func := "linkboy/linkboylaw21.PhaseGone", spec := "phaseGone", apart := false, narrowed := true }
def PhaseGoneUptoSaid : Prop := phaseGoneUptoRow.holds Try.pinned (OpenSpec.upto phaseGoneSpec)

/-- 'linkboylaw21.PhaseGoes', WHERE WHAT IT READS IS OF BULK AT MOST 1048576: true; the input reads as it did. -/
def phaseGoesUptoRow : OpenClaim := { program := "ytlegnmcmcgenoaa", sum := "1497bedb0af0b0ba62b21c6e0eaaf3a5da755f22409d5bbadd12cc4a080f041d", func := "linkboy/linkboylaw21.PhaseGoes", spec := "phaseGoes", apart := false, narrowed := true }
def PhaseGoesUptoSaid : Prop := phaseGoesUptoRow.holds Try.pinned (OpenSpec.upto phaseGoesSpec)

end Rows
end Go.Proofs.Ytlegnmcmcgenoaa
