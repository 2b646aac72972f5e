/-
  DERIVED. GIVEN WITH THE SEED: THE CARDS: each row of YtgodclgcfpmloaaGreatDoorRows.lean that lists a variable, with what it lists TIED to the program's text (the seventh form; the later family's looks); each row that meets fmt, with fmt's text TOLD by the authors' own Lean function (tested against real Go, not proved from fmt's source: count such statements apart). THE CARD IS WHAT COUNTS. Prove the row's statement (the work); the ties are given (YtgodclgcfpmloaaGreatDoorTie.lean); close each card by the builder's one call (the guide's Derived/Test/ToyasCard.lean, 'card_holds'). Laid BY PROGRAM, IN A SANDBOX (cutbox-door.mjs). By AI agents, Wed Nov 11 2026. No macro, syntax, notation, axiom, sorry.
-/
import Derived.Test.YtgodclgcfpmloaaGreatDoorRows
import GoSem.ClaimSeven
namespace Go.Proofs.YtgodclgcfpmloaaGreatDoor
namespace Rows

/-- THE TIED CARD OF 'linkboylaw42.TraceTallies'. -/
def traceTalliesCard : Claim7 := { stood := { row := traceTalliesRow, standIns := [], harness := (true, "32ca0ac34d1c2826c0d39f444479d8288e8a3d3aaa066fb25bb8d1dd8662cf64"), looks := true }, kinds := [], alts := [], laidByText := true, laidKinds := [.data, .pinned], laidTests := true, laidLooks := .later }
def TraceTalliesCardSaid : Prop := Claim7.holds Tryz.pinned (.plain (OpenSpec.ofChange traceTalliesSpec)) traceTalliesCard

/-- THE SECOND FORM's CARD OF 'linkboylaw42.TraceTallies'. -/
def traceTalliesUptoCard : Claim7 := { stood := { row := traceTalliesUptoRow, standIns := [], harness := (true, "32ca0ac34d1c2826c0d39f444479d8288e8a3d3aaa066fb25bb8d1dd8662cf64"), looks := true }, kinds := [], alts := [], laidByText := true, laidKinds := [.data, .pinned], laidTests := true, laidLooks := .later }
def TraceTalliesUptoCardSaid : Prop := Claim7.holds Tryz.pinned (.plain (OpenSpec.upto traceTalliesSpec)) traceTalliesUptoCard
end Rows
end Go.Proofs.YtgodclgcfpmloaaGreatDoor
