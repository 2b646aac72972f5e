/-
  DERIVED. GIVEN WITH THE SEED: THE CARDS: each row of YtbhmnloklpdmiaaDoorRows.lean that lists a variable, with what it lists TIED to the program's text (the seventh form; the later family's looks); each row that meets fmt, with fmt's text TOLD by the authors' own Lean function (tested against real Go, not proved from fmt's source: count such statements apart). THE CARD IS WHAT COUNTS. Prove the row's statement (the work); the ties are given (YtbhmnloklpdmiaaDoorTie.lean); close each card by the builder's one call (the guide's Derived/Test/ToyasCard.lean, 'card_holds'). Laid BY PROGRAM, IN A SANDBOX (cutbox-door.mjs). By AI agents, Wed Nov 11 2026. No macro, syntax, notation, axiom, sorry.
-/
import Derived.Test.YtbhmnloklpdmiaaDoorRows
import GoSem.ClaimSeven
namespace Go.Proofs.YtbhmnloklpdmiaaDoor
namespace Rows

/-- THE TIED CARD OF 'linkboylaw03.AddrTexts'. -/
def addrTextsCard : Claim7 := { stood := { row := addrTextsRow, standIns := [], harness := (true, "da2e946486b5401d6bdd8ef8a4a73f825e6007320d0197ea9e311d828fffdd77"), looks := false }, kinds := [], alts := [], laidByText := true, laidKinds := [.data, .pinned], laidTests := true, laidLooks := .later }
def AddrTextsCardSaid : Prop := Claim7.holds Tryd.pinned (.plain (OpenSpec.ofChange addrTextsSpec)) addrTextsCard

/-- THE TIED CARD OF 'linkboylaw03.AddrMacs'. -/
def addrMacsCard : Claim7 := { stood := { row := addrMacsRow, standIns := [], harness := (true, "da2e946486b5401d6bdd8ef8a4a73f825e6007320d0197ea9e311d828fffdd77"), looks := false }, kinds := [], alts := [], laidByText := true, laidKinds := [.data, .pinned], laidTests := true, laidLooks := .later }
def AddrMacsCardSaid : Prop := Claim7.holds Tryd.pinned (.plain (OpenSpec.ofChange addrMacsSpec)) addrMacsCard

/-- THE TIED CARD OF 'linkboylaw03.AddrBack'. -/
def addrBackCard : Claim7 := { stood := { row := addrBackRow, standIns := [], harness := (true, "da2e946486b5401d6bdd8ef8a4a73f825e6007320d0197ea9e311d828fffdd77"), looks := false }, kinds := [], alts := [], laidByText := true, laidKinds := [.data, .pinned], laidTests := true, laidLooks := .later }
def AddrBackCardSaid : Prop := Claim7.holds Tryd.pinned (.plain (OpenSpec.ofChange addrBackSpec)) addrBackCard

/-- THE TIED CARD OF 'linkboylaw03.AddrNets'. -/
def addrNetsCard : Claim7 := { stood := { row := addrNetsRow, standIns := [], harness := (true, "da2e946486b5401d6bdd8ef8a4a73f825e6007320d0197ea9e311d828fffdd77"), looks := false }, kinds := [], alts := [], laidByText := true, laidKinds := [.data, .pinned], laidTests := true, laidLooks := .later }
def AddrNetsCardSaid : Prop := Claim7.holds Tryd.pinned (.plain (OpenSpec.ofChange addrNetsSpec)) addrNetsCard

/-- THE SECOND FORM's CARD OF 'linkboylaw03.AddrTexts'. -/
def addrTextsUptoCard : Claim7 := { stood := { row := addrTextsUptoRow, standIns := [], harness := (true, "da2e946486b5401d6bdd8ef8a4a73f825e6007320d0197ea9e311d828fffdd77"), looks := false }, kinds := [], alts := [], laidByText := true, laidKinds := [.data, .pinned], laidTests := true, laidLooks := .later }
def AddrTextsUptoCardSaid : Prop := Claim7.holds Tryd.pinned (.plain (OpenSpec.upto addrTextsSpec)) addrTextsUptoCard

/-- THE SECOND FORM's CARD OF 'linkboylaw03.AddrMacs'. -/
def addrMacsUptoCard : Claim7 := { stood := { row := addrMacsUptoRow, standIns := [], harness := (true, "da2e946486b5401d6bdd8ef8a4a73f825e6007320d0197ea9e311d828fffdd77"), looks := false }, kinds := [], alts := [], laidByText := true, laidKinds := [.data, .pinned], laidTests := true, laidLooks := .later }
def AddrMacsUptoCardSaid : Prop := Claim7.holds Tryd.pinned (.plain (OpenSpec.upto addrMacsSpec)) addrMacsUptoCard

/-- THE SECOND FORM's CARD OF 'linkboylaw03.AddrBack'. -/
def addrBackUptoCard : Claim7 := { stood := { row := addrBackUptoRow, standIns := [], harness := (true, "da2e946486b5401d6bdd8ef8a4a73f825e6007320d0197ea9e311d828fffdd77"), looks := false }, kinds := [], alts := [], laidByText := true, laidKinds := [.data, .pinned], laidTests := true, laidLooks := .later }
def AddrBackUptoCardSaid : Prop := Claim7.holds Tryd.pinned (.plain (OpenSpec.upto addrBackSpec)) addrBackUptoCard

/-- THE SECOND FORM's CARD OF 'linkboylaw03.AddrNets'. -/
def addrNetsUptoCard : Claim7 := { stood := { row := addrNetsUptoRow, standIns := [], harness := (true, "da2e946486b5401d6bdd8ef8a4a73f825e6007320d0197ea9e311d828fffdd77"), looks := false }, kinds := [], alts := [], laidByText := true, laidKinds := [.data, .pinned], laidTests := true, laidLooks := .later }
def AddrNetsUptoCardSaid : Prop := Claim7.holds Tryd.pinned (.plain (OpenSpec.upto addrNetsSpec)) addrNetsUptoCard
end Rows
end Go.Proofs.YtbhmnloklpdmiaaDoor
