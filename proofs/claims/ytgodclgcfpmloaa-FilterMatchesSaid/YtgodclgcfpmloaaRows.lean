/-
  No cell of these rows narrows 'for every input' (looked for: loops, veiled, ifaces, maps, wideKeys, modest, calm, conditions, laid).
  DERIVED. THE GIVEN ROWS OF THIS SEAT. 3 by the template 'for every input the law returns true; each argument reads behind the call as it read before'; 0 by the template 'total and deterministic' (their statements: YtgodclgcfpmloaaTotals.lean).
  GIVEN WITH THE SEED: the statements are not yours to turn. If you find one false, say at which input.
  Laid BY PROGRAM, IN A SANDBOX (cutbox-rows.mjs): the forced cells as the released guide's own fill.sh prints them over the translation 9390e062e8bb3b8a… (all of the seat's roots in one cut). By AI agents, Wed Nov 11 2026. No macro, syntax, notation, axiom, sorry.
-/
import Derived.Test.YtgodclgcfpmloaaChecked
import GoSem.Claim
import GoSem.ClaimJoined
import GoSem.ClaimMapViews
import Derived.JoinedTies
import Derived.KernelRfl
namespace Go.Proofs.Ytgodclgcfpmloaa
/- THE CELL 'sum', in the pinned program and in every row, IS THE sha256 OF THE DUMP (.gsa) THAT YtgodclgcfpmloaaProg.lean LOADS. Nothing in Lean hashes anything: it is a label: what it is worth is what the hold of that sum in a sandbox is worth. -/
noncomputable def Try.pinned : Pinned := { name := "ytgodclgcfpmloaa", sum := "9390e062e8bb3b8a3b6fca5a69b9e3d89d4309795b44953912e8a9c8400bb63a", checked := Try.checked }
namespace Rows
def none {H : Type} : Left H := { results := [], args := [] }

/-- 'linkboylaw45.FilterLaws': WHATEVER THE INPUT: true; the input reads as it did. -/
def filterLawsSpec : ChangeSpec := { name := "filterLaws", fn := fun _ => fun
  | [d1, d2, d3] => { results := [.lit (.bool true)], args := [d1, d2, d3] }
  | _ => none }
def filterLawsRow : OpenClaim := { program := "ytgodclgcfpmloaa", sum := "9390e062e8bb3b8a3b6fca5a69b9e3d89d4309795b44953912e8a9c8400bb63a", func := "linkboy/linkboylaw45.FilterLaws", spec := "filterLaws", inPlace := ["internal/bytealg.IndexByteString", "internal/bytealg.IndexString", "internal/abi.NoEscape", "internal/bytealg.MakeNoZero"], unfollowed := true, recurses := true, named := ["internal/bytealg.MaxLen"], apart := false }
def FilterLawsSaid : Prop := filterLawsRow.holds Try.pinned (OpenSpec.ofChange filterLawsSpec)

/-- ITS FALSE NEIGHBOUR: 'it returns false'. Refute it at one input. -/
def filterLawsWrong : ChangeSpec := { name := "filterLaws", fn := fun _ => fun
  | [d1, d2, d3] => { results := [.lit (.bool false)], args := [d1, d2, d3] }
  | _ => none }
def FilterLawsWrongFalsely : Prop := filterLawsRow.holds Try.pinned (OpenSpec.ofChange filterLawsWrong)

/-- 'linkboylaw45.FilterMatches': WHATEVER THE INPUT: true; the input reads as it did. -/
def filterMatchesSpec : ChangeSpec := { name := "filterMatches", fn := fun _ => fun
  | [d1, d2] => { results := [.lit (.bool true)], args := [d1, d2] }
  | _ => none }
def filterMatchesRow : OpenClaim := { program := "ytgodclgcfpmloaa", sum := "9390e062e8bb3b8a3b6fca5a69b9e3d89d4309795b44953912e8a9c8400bb63a", func := "linkboy/linkboylaw45.FilterMatches", spec := "filterMatches", inPlace := ["internal/abi.NoEscape", "internal/bytealg.MakeNoZero", "internal/bytealg.IndexByteString", "internal/bytealg.IndexString"], unfollowed := true, recurses := true, named := ["internal/bytealg.MaxLen"], apart := false }
def FilterMatchesSaid : Prop := filterMatchesRow.holds Try.pinned (OpenSpec.ofChange filterMatchesSpec)

/-- ITS FALSE NEIGHBOUR: 'it returns false'. Refute it at one input. -/
def filterMatchesWrong : ChangeSpec := { name := "filterMatches", fn := fun _ => fun
  | [d1, d2] => { results := [.lit (.bool false)], args := [d1, d2] }
  | _ => none }
def FilterMatchesWrongFalsely : Prop := filterMatchesRow.holds Try.pinned (OpenSpec.ofChange filterMatchesWrong)

/-- 'linkboylaw45.FilterPrints': WHATEVER THE INPUT: true; the input reads as it did. -/
def filterPrintsSpec : ChangeSpec := { name := "filterPrints", fn := fun _ => fun
  | [d] => { results := [.lit (.bool true)], args := [d] }
  | _ => none }
def filterPrintsRow : OpenClaim := { program := "ytgodclgcfpmloaa", sum := "9390e062e8bb3b8a3b6fca5a69b9e3d89d4309795b44953912e8a9c8400bb63a", func := "linkboy/linkboylaw45.FilterPrints", spec := "filterPrints", inPlace := ["internal/abi.NoEscape", "internal/bytealg.MakeNoZero", "internal/bytealg.IndexByteString", "internal/bytealg.IndexString"], unfollowed := true, recurses := true, named := ["internal/bytealg.MaxLen"], apart := false }
def FilterPrintsSaid : Prop := filterPrintsRow.holds Try.pinned (OpenSpec.ofChange filterPrintsSpec)

/-- ITS FALSE NEIGHBOUR: 'it returns false'. Refute it at one input. -/
def filterPrintsWrong : ChangeSpec := { name := "filterPrints", fn := fun _ => fun
  | [d] => { results := [.lit (.bool false)], args := [d] }
  | _ => none }
def FilterPrintsWrongFalsely : Prop := filterPrintsRow.holds Try.pinned (OpenSpec.ofChange filterPrintsWrong)

/- THE SECOND FORM. 'bulk': how many values and letters a reading holds, each counted each time it is reached (what is shared counts as often as it is met; a slice's spare places count too). A statement '..UptoSaid' is the law's where the arguments, and the package variables that the reading takes, are together of bulk at most 1048576: NARROWER than '..Said'. Prove '..Said' where nothing that the law and all that it calls make is longer than what came in: it says more and counts as full. Else prove '..UptoSaid'. A law counts once. -/
mutual
def uptoBulk {H : Type} : DataW H → Nat
  | .lit (.string bytes) => bytes.length + 1
  | .lit _ => 1
  | .nil => 1
  | .ptr d => uptoBulk d + 1
  | .slice elems spare => uptoBulkAll elems + uptoBulkAll spare + 1
  | .agg parts => uptoBulkAll parts + 1
  | .iface _ d => uptoBulk d + 1
  | .map entries => uptoBulkEntries entries + 1
  | .held _ => 1
def uptoBulkAll {H : Type} : List (DataW H) → Nat
  | [] => 0
  | d :: r => uptoBulk d + uptoBulkAll r
def uptoBulkEntries {H : Type} : List (Lit × DataW H) → Nat
  | [] => 0
  | x :: r => uptoBulkEntry x + uptoBulkEntries r
def uptoBulkEntry {H : Type} : Lit × DataW H → Nat
  | (.string bytes, d) => bytes.length + uptoBulk d + 1
  | (_, d) => uptoBulk d + 1
 end
def uptoSmall : (H : Type) → List (DataW H) → Bool := fun _ ds => decide (uptoBulkAll ds ≤ 1048576)
def OpenSpec.upto (s : _root_.Go.ChangeSpec) : _root_.Go.OpenSpec := { _root_.Go.OpenSpec.ofChange s with cond := some uptoSmall }

/-- 'linkboylaw45.FilterLaws', WHERE WHAT IT READS IS OF BULK AT MOST 1048576: true; the input reads as it did. -/
def filterLawsUptoRow : OpenClaim := { program := "ytgodclgcfpmloaa", sum := "9390e062e8bb3b8a3b6fca5a69b9e3d89d4309795b44953912e8a9c8400bb63a", func := "linkboy/linkboylaw45.FilterLaws", spec := "filterLaws", inPlace := ["internal/bytealg.IndexByteString", "internal/bytealg.IndexString", "internal/abi.NoEscape", "internal/bytealg.MakeNoZero"], unfollowed := true, recurses := true, named := ["internal/bytealg.MaxLen"], apart := false, narrowed := true }
def FilterLawsUptoSaid : Prop := filterLawsUptoRow.holds Try.pinned (OpenSpec.upto filterLawsSpec)

/-- 'linkboylaw45.FilterMatches', WHERE WHAT IT READS IS OF BULK AT MOST 1048576: true; the input reads as it did. -/
def filterMatchesUptoRow : OpenClaim := { program := "ytgodclgcfpmloaa", sum := "9390e062e8bb3b8a3b6fca5a69b9e3d89d4309795b44953912e8a9c8400bb63a", func := "linkboy/linkboylaw45.FilterMatches", spec := "filterMatches", inPlace := ["internal/abi.NoEscape", "internal/bytealg.MakeNoZero", "internal/bytealg.IndexByteString", "internal/bytealg.IndexString"], unfollowed := true, recurses := true, named := ["internal/bytealg.MaxLen"], apart := false, narrowed := true }
def FilterMatchesUptoSaid : Prop := filterMatchesUptoRow.holds Try.pinned (OpenSpec.upto filterMatchesSpec)

/-- 'linkboylaw45.FilterPrints', WHERE WHAT IT READS IS OF BULK AT MOST 1048576: true; the input reads as it did. -/
def filterPrintsUptoRow : OpenClaim := { program := "ytgodclgcfpmloaa", sum := "9390e062e8bb3b8a3b6fca5a69b9e3d89d4309795b44953912e8a9c8400bb63a", func := "linkboy/linkboylaw45.FilterPrints", spec := "filterPrints", inPlace := ["internal/abi.NoEscape", "internal/bytealg.MakeNoZero", "internal/bytealg.IndexByteString", "internal/bytealg.IndexString"], unfollowed := true, recurses := true, named := ["internal/bytealg.MaxLen"], apart := false, narrowed := true }
def FilterPrintsUptoSaid : Prop := filterPrintsUptoRow.holds Try.pinned (OpenSpec.upto filterPrintsSpec)

end Rows
end Go.Proofs.Ytgodclgcfpmloaa
