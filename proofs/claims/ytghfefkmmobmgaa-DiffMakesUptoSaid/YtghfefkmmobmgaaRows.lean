/-
  No cell of these rows narrows 'for every input' (looked for: loops, veiled, ifaces, maps, wideKeys, modest, calm, conditions, laid).
  DERIVED. THE GIVEN ROWS OF THIS SEAT. 8 by the template 'for every input the law returns true; each argument reads behind the call as it read before'; 0 by the template 'total and deterministic' (their statements: YtghfefkmmobmgaaTotals.lean).
  GIVEN WITH THE SEED: the statements are not yours to turn. If you find one false, say at which input.
  Laid BY PROGRAM, IN A SANDBOX (cutbox-rows.mjs): the forced cells as the released guide's own fill.sh prints them over the translation 01b801eeb471e449… (all of the seat's roots in one cut). By AI agents, Wed Nov 11 2026. No macro, syntax, notation, axiom, sorry.
-/
import Derived.Test.YtghfefkmmobmgaaChecked
import GoSem.Claim
import GoSem.ClaimJoined
import GoSem.ClaimMapViews
import Derived.JoinedTies
import Derived.KernelRfl
namespace Go.Proofs.Ytghfefkmmobmgaa
/- THE CELL 'sum', in the pinned program and in every row, IS THE sha256 OF THE DUMP (.gsa) THAT YtghfefkmmobmgaaProg.lean LOADS. Nothing in Lean hashes anything: it is a label: what it is worth is what the hold of that sum in a sandbox is worth. -/
noncomputable def Try.pinned : Pinned := { name := "ytghfefkmmobmgaa", sum := "01b801eeb471e4497ab5e51d846fe3698aece829700da5574fd7f401733ef216", checked := Try.checked }
namespace Rows
def none {H : Type} : Left H := { results := [], args := [] }

/-- 'linkboylaw48.DiffMoved': WHATEVER THE INPUT: true; the input reads as it did. -/
def diffMovedSpec : ChangeSpec := { name := "diffMoved", fn := fun _ => fun
  | [d1, d2] => { results := [.lit (.bool true)], args := [d1, d2] }
  | _ => none }
def diffMovedRow : OpenClaim := { program := "ytghfefkmmobmgaa", sum := "01b801eeb471e4497ab5e51d846fe3698aece829700da5574fd7f401733ef216", func := "linkboy/linkboylaw48.DiffMoved", spec := "diffMoved", unfollowed := true, recurses := true, apart := false }
def DiffMovedSaid : Prop := diffMovedRow.holds Try.pinned (OpenSpec.ofChange diffMovedSpec)

/-- ITS FALSE NEIGHBOUR: 'it returns false'. Refute it at one input. -/
def diffMovedWrong : ChangeSpec := { name := "diffMoved", fn := fun _ => fun
  | [d1, d2] => { results := [.lit (.bool false)], args := [d1, d2] }
  | _ => none }
def DiffMovedWrongFalsely : Prop := diffMovedRow.holds Try.pinned (OpenSpec.ofChange diffMovedWrong)

/-- 'linkboylaw48.DiffBetween': WHATEVER THE INPUT: true; the input reads as it did. -/
def diffBetweenSpec : ChangeSpec := { name := "diffBetween", fn := fun _ => fun
  | [d1, d2, d3] => { results := [.lit (.bool true)], args := [d1, d2, d3] }
  | _ => none }
def diffBetweenRow : OpenClaim := { program := "ytghfefkmmobmgaa", sum := "01b801eeb471e4497ab5e51d846fe3698aece829700da5574fd7f401733ef216", func := "linkboy/linkboylaw48.DiffBetween", spec := "diffBetween", unfollowed := true, recurses := true, apart := false }
def DiffBetweenSaid : Prop := diffBetweenRow.holds Try.pinned (OpenSpec.ofChange diffBetweenSpec)

/-- ITS FALSE NEIGHBOUR: 'it returns false'. Refute it at one input. -/
def diffBetweenWrong : ChangeSpec := { name := "diffBetween", fn := fun _ => fun
  | [d1, d2, d3] => { results := [.lit (.bool false)], args := [d1, d2, d3] }
  | _ => none }
def DiffBetweenWrongFalsely : Prop := diffBetweenRow.holds Try.pinned (OpenSpec.ofChange diffBetweenWrong)

/-- 'linkboylaw31.FarmRight': WHATEVER THE INPUT: true; the input reads as it did. -/
def farmRightSpec : ChangeSpec := { name := "farmRight", fn := fun _ => fun
  | [d] => { results := [.lit (.bool true)], args := [d] }
  | _ => none }
def farmRightRow : OpenClaim := { program := "ytghfefkmmobmgaa", sum := "01b801eeb471e4497ab5e51d846fe3698aece829700da5574fd7f401733ef216", func := "linkboy/linkboylaw31.FarmRight", spec := "farmRight", unfollowed := true, recurses := true, apart := false }
def FarmRightSaid : Prop := farmRightRow.holds Try.pinned (OpenSpec.ofChange farmRightSpec)

/-- ITS FALSE NEIGHBOUR: 'it returns false'. Refute it at one input. -/
def farmRightWrong : ChangeSpec := { name := "farmRight", fn := fun _ => fun
  | [d] => { results := [.lit (.bool false)], args := [d] }
  | _ => none }
def FarmRightWrongFalsely : Prop := farmRightRow.holds Try.pinned (OpenSpec.ofChange farmRightWrong)

/-- 'linkboylaw31.FarmTells': WHATEVER THE INPUT: true; the input reads as it did. -/
def farmTellsSpec : ChangeSpec := { name := "farmTells", fn := fun _ => fun
  | [d1, d2, d3, d4, d5] => { results := [.lit (.bool true)], args := [d1, d2, d3, d4, d5] }
  | _ => none }
def farmTellsRow : OpenClaim := { program := "ytghfefkmmobmgaa", sum := "01b801eeb471e4497ab5e51d846fe3698aece829700da5574fd7f401733ef216", func := "linkboy/linkboylaw31.FarmTells", spec := "farmTells", unfollowed := true, recurses := true, apart := false }
def FarmTellsSaid : Prop := farmTellsRow.holds Try.pinned (OpenSpec.ofChange farmTellsSpec)

/-- ITS FALSE NEIGHBOUR: 'it returns false'. Refute it at one input. -/
def farmTellsWrong : ChangeSpec := { name := "farmTells", fn := fun _ => fun
  | [d1, d2, d3, d4, d5] => { results := [.lit (.bool false)], args := [d1, d2, d3, d4, d5] }
  | _ => none }
def FarmTellsWrongFalsely : Prop := farmTellsRow.holds Try.pinned (OpenSpec.ofChange farmTellsWrong)

/-- 'linkboylaw35.CommandDoes': WHATEVER THE INPUT: true; the input reads as it did. -/
def commandDoesSpec : ChangeSpec := { name := "commandDoes", fn := fun _ => fun
  | [d] => { results := [.lit (.bool true)], args := [d] }
  | _ => none }
def commandDoesRow : OpenClaim := { program := "ytghfefkmmobmgaa", sum := "01b801eeb471e4497ab5e51d846fe3698aece829700da5574fd7f401733ef216", func := "linkboy/linkboylaw35.CommandDoes", spec := "commandDoes", unfollowed := true, recurses := true, apart := false }
def CommandDoesSaid : Prop := commandDoesRow.holds Try.pinned (OpenSpec.ofChange commandDoesSpec)

/-- ITS FALSE NEIGHBOUR: 'it returns false'. Refute it at one input. -/
def commandDoesWrong : ChangeSpec := { name := "commandDoes", fn := fun _ => fun
  | [d] => { results := [.lit (.bool false)], args := [d] }
  | _ => none }
def CommandDoesWrongFalsely : Prop := commandDoesRow.holds Try.pinned (OpenSpec.ofChange commandDoesWrong)

/-- 'linkboylaw35.CommandCodes': WHATEVER THE INPUT: true; the input reads as it did. -/
def commandCodesSpec : ChangeSpec := { name := "commandCodes", fn := fun _ => fun
  | [d] => { results := [.lit (.bool true)], args := [d] }
  | _ => none }
def commandCodesRow : OpenClaim := { program := "ytghfefkmmobmgaa", sum := "01b801eeb471e4497ab5e51d846fe3698aece829700da5574fd7f401733ef216", func := "linkboy/linkboylaw35.CommandCodes", spec := "commandCodes", unfollowed := true, recurses := true, apart := false }
def CommandCodesSaid : Prop := commandCodesRow.holds Try.pinned (OpenSpec.ofChange commandCodesSpec)

/-- ITS FALSE NEIGHBOUR: 'it returns false'. Refute it at one input. -/
def commandCodesWrong : ChangeSpec := { name := "commandCodes", fn := fun _ => fun
  | [d] => { results := [.lit (.bool false)], args := [d] }
  | _ => none }
def CommandCodesWrongFalsely : Prop := commandCodesRow.holds Try.pinned (OpenSpec.ofChange commandCodesWrong)

/-- 'linkboylaw35.CommandOnce': WHATEVER THE INPUT: true; the input reads as it did. -/
def commandOnceSpec : ChangeSpec := { name := "commandOnce", fn := fun _ => fun
  | [d] => { results := [.lit (.bool true)], args := [d] }
  | _ => none }
def commandOnceRow : OpenClaim := { program := "ytghfefkmmobmgaa", sum := "01b801eeb471e4497ab5e51d846fe3698aece829700da5574fd7f401733ef216", func := "linkboy/linkboylaw35.CommandOnce", spec := "commandOnce", unfollowed := true, recurses := true, apart := false }
def CommandOnceSaid : Prop := commandOnceRow.holds Try.pinned (OpenSpec.ofChange commandOnceSpec)

/-- ITS FALSE NEIGHBOUR: 'it returns false'. Refute it at one input. -/
def commandOnceWrong : ChangeSpec := { name := "commandOnce", fn := fun _ => fun
  | [d] => { results := [.lit (.bool false)], args := [d] }
  | _ => none }
def CommandOnceWrongFalsely : Prop := commandOnceRow.holds Try.pinned (OpenSpec.ofChange commandOnceWrong)

/-- 'linkboylaw48.DiffMakes': WHATEVER THE INPUT: true; the input reads as it did. -/
def diffMakesSpec : ChangeSpec := { name := "diffMakes", fn := fun _ => fun
  | [d1, d2, d3] => { results := [.lit (.bool true)], args := [d1, d2, d3] }
  | _ => none }
def diffMakesRow : OpenClaim := { program := "ytghfefkmmobmgaa", sum := "01b801eeb471e4497ab5e51d846fe3698aece829700da5574fd7f401733ef216", func := "linkboy/linkboylaw48.DiffMakes", spec := "diffMakes", unfollowed := true, recurses := true, apart := false }
def DiffMakesSaid : Prop := diffMakesRow.holds Try.pinned (OpenSpec.ofChange diffMakesSpec)

/-- ITS FALSE NEIGHBOUR: 'it returns false'. Refute it at one input. -/
def diffMakesWrong : ChangeSpec := { name := "diffMakes", fn := fun _ => fun
  | [d1, d2, d3] => { results := [.lit (.bool false)], args := [d1, d2, d3] }
  | _ => none }
def DiffMakesWrongFalsely : Prop := diffMakesRow.holds Try.pinned (OpenSpec.ofChange diffMakesWrong)

/- THE SECOND FORM. 'bulk': how many values and letters a reading holds, each counted each time it is reached (what is shared counts as often as it is met; a slice's spare places count too). A statement '..UptoSaid' is the law's where the arguments, and the package variables that the reading takes, are together of bulk at most 1048576: NARROWER than '..Said'. Prove '..Said' where nothing that the law and all that it calls make is longer than what came in: it says more and counts as full. Else prove '..UptoSaid'. A law counts once. -/
mutual
def uptoBulk {H : Type} : DataW H → Nat
  | .lit (.string bytes) => bytes.length + 1
  | .lit _ => 1
  | .nil => 1
  | .ptr d => uptoBulk d + 1
  | .slice elems spare => uptoBulkAll elems + uptoBulkAll spare + 1
  | .agg parts => uptoBulkAll parts + 1
  | .iface _ d => uptoBulk d + 1
  | .map entries => uptoBulkEntries entries + 1
  | .held _ => 1
def uptoBulkAll {H : Type} : List (DataW H) → Nat
  | [] => 0
  | d :: r => uptoBulk d + uptoBulkAll r
def uptoBulkEntries {H : Type} : List (Lit × DataW H) → Nat
  | [] => 0
  | x :: r => uptoBulkEntry x + uptoBulkEntries r
def uptoBulkEntry {H : Type} : Lit × DataW H → Nat
  | (.string bytes, d) => bytes.length + uptoBulk d + 1
  | (_, d) => uptoBulk d + 1
 end
def uptoSmall : (H : Type) → List (DataW H) → Bool := fun _ ds => decide (uptoBulkAll ds ≤ 1048576)
def OpenSpec.upto (s : _root_.Go.ChangeSpec) : _root_.Go.OpenSpec := { _root_.Go.OpenSpec.ofChange s with cond := some uptoSmall }

/-- 'linkboylaw48.DiffMoved', WHERE WHAT IT READS IS OF BULK AT MOST 1048576: true; the input reads as it did. -/
def diffMovedUptoRow : OpenClaim := { program := "ytghfefkmmobmgaa", sum := "01b801eeb471e4497ab5e51d846fe3698aece829700da5574fd7f401733ef216", func := "linkboy/linkboylaw48.DiffMoved", spec := "diffMoved", unfollowed := true, recurses := true, apart := false, narrowed := true }
def DiffMovedUptoSaid : Prop := diffMovedUptoRow.holds Try.pinned (OpenSpec.upto diffMovedSpec)

/-- 'linkboylaw48.DiffBetween', WHERE WHAT IT READS IS OF BULK AT MOST 1048576: true; the input reads as it did. -/
def diffBetweenUptoRow : OpenClaim := { program := "ytghfefkmmobmgaa", sum := "01b801eeb471e4497ab5e51d846fe3698aece829700da5574fd7f401733ef216", func := "linkboy/linkboylaw48.DiffBetween", spec := "diffBetween", unfollowed := true, recurses := true, apart := false, narrowed := true }
def DiffBetweenUptoSaid : Prop := diffBetweenUptoRow.holds Try.pinned (OpenSpec.upto diffBetweenSpec)

/-- 'linkboylaw31.FarmRight', WHERE WHAT IT READS IS OF BULK AT MOST 1048576: true; the input reads as it did. -/
def farmRightUptoRow : OpenClaim := { program := "ytghfefkmmobmgaa", sum := "01b801eeb471e4497ab5e51d846fe3698aece829700da5574fd7f401733ef216", func := "linkboy/linkboylaw31.FarmRight", spec := "farmRight", unfollowed := true, recurses := true, apart := false, narrowed := true }
def FarmRightUptoSaid : Prop := farmRightUptoRow.holds Try.pinned (OpenSpec.upto farmRightSpec)

/-- 'linkboylaw31.FarmTells', WHERE WHAT IT READS IS OF BULK AT MOST 1048576: true; the input reads as it did. -/
def farmTellsUptoRow : OpenClaim := { program := "ytghfefkmmobmgaa", sum := "01b801eeb471e4497ab5e51d846fe3698aece829700da5574fd7f401733ef216", func := "linkboy/linkboylaw31.FarmTells", spec := "farmTells", unfollowed := true, recurses := true, apart := false, narrowed := true }
def FarmTellsUptoSaid : Prop := farmTellsUptoRow.holds Try.pinned (OpenSpec.upto farmTellsSpec)

/-- 'linkboylaw35.CommandDoes', WHERE WHAT IT READS IS OF BULK AT MOST 1048576: true; the input reads as it did. -/
def commandDoesUptoRow : OpenClaim := { program := "ytghfefkmmobmgaa", sum := "01b801eeb471e4497ab5e51d846fe3698aece829700da5574fd7f401733ef216", func := "linkboy/linkboylaw35.CommandDoes", spec := "commandDoes", unfollowed := true, recurses := true, apart := false, narrowed := true }
def CommandDoesUptoSaid : Prop := commandDoesUptoRow.holds Try.pinned (OpenSpec.upto commandDoesSpec)

/-- 'linkboylaw35.CommandCodes', WHERE WHAT IT READS IS OF BULK AT MOST 1048576: true; the input reads as it did. -/
def commandCodesUptoRow : OpenClaim := { program := "ytghfefkmmobmgaa", sum := "01b801eeb471e4497ab5e51d846fe3698aece829700da5574fd7f401733ef216", func := "linkboy/linkboylaw35.CommandCodes", spec := "commandCodes", unfollowed := true, recurses := true, apart := false, narrowed := true }
def CommandCodesUptoSaid : Prop := commandCodesUptoRow.holds Try.pinned (OpenSpec.upto commandCodesSpec)

/-- 'linkboylaw35.CommandOnce', WHERE WHAT IT READS IS OF BULK AT MOST 1048576: true; the input reads as it did. -/
def commandOnceUptoRow : OpenClaim := { program := "ytghfefkmmobmgaa", sum := "01b801eeb471e4497ab5e51d846fe3698aece829700da5574fd7f401733ef216", func := "linkboy/linkboylaw35.CommandOnce", spec := "commandOnce", unfollowed := true, recurses := true, apart := false, narrowed := true }
def CommandOnceUptoSaid : Prop := commandOnceUptoRow.holds Try.pinned (OpenSpec.upto commandOnceSpec)

/-- 'linkboylaw48.DiffMakes', WHERE WHAT IT READS IS OF BULK AT MOST 1048576: true; the input reads as it did. -/
def diffMakesUptoRow : OpenClaim := { program := "ytghfefkmmobmgaa", sum := "01b801eeb471e4497ab5e51d846fe3698aece829700da5574fd7f401733ef216", func := "linkboy/linkboylaw48.DiffMakes", spec := "diffMakes", unfollowed := true, recurses := true, apart := false, narrowed := true }
def DiffMakesUptoSaid : Prop := diffMakesUptoRow.holds Try.pinned (OpenSpec.upto diffMakesSpec)

end Rows
end Go.Proofs.Ytghfefkmmobmgaa
