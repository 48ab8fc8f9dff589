/-
  DERIVED. GIVEN WITH THE SEED: THE CARDS: each row of YtmhmlneobbgadaaGreatDoorRows.lean that lists a variable, with what it lists TIED to the program's text (the seventh form; the later family's looks); each row that meets fmt, with fmt's text TOLD by the authors' own Lean function (tested against real Go, not proved from fmt's source: count such statements apart). THE CARD IS WHAT COUNTS. Prove the row's statement (the work); the ties are given (YtmhmlneobbgadaaGreatDoorTie.lean); close each card by the builder's one call (the guide's Derived/Test/ToyasCard.lean, 'card_holds'). Laid BY PROGRAM, IN A SANDBOX (cutbox-door.mjs). By AI agents, Wed Nov 11 2026. No macro, syntax, notation, axiom, sorry.
-/
import Derived.Test.YtmhmlneobbgadaaGreatDoorRows
import GoSem.ClaimSeven
namespace Go.Proofs.YtmhmlneobbgadaaGreatDoor
namespace Rows

/-- THE TIED CARD OF 'cribblelaw38.DeskHex'. -/
def deskHexCard : Claim7 := { stood := { row := deskHexRow, standIns := [], harness := (true, "6176c300b60ab960be2edc14025775c9d5cc4a6202919c5959f908214a6e4695"), looks := true }, kinds := [], alts := [], laidByText := true, laidKinds := [.pinned, .data, .sentinel, .sentinel, .data, .data, .data], laidTests := true, laidLooks := .later }
def DeskHexCardSaid : Prop := Claim7.holds Tryz.pinned (.plain (OpenSpec.ofChange deskHexSpec)) deskHexCard

/-- THE TIED CARD OF 'cribblelaw38.DeskLines'. -/
def deskLinesCard : Claim7 := { stood := { row := deskLinesRow, standIns := [], harness := (true, "6176c300b60ab960be2edc14025775c9d5cc4a6202919c5959f908214a6e4695"), looks := true }, kinds := [], alts := [], laidByText := true, laidKinds := [.pinned, .data, .sentinel, .sentinel, .data, .data, .data], laidTests := true, laidLooks := .later }
def DeskLinesCardSaid : Prop := Claim7.holds Tryz.pinned (.plain (OpenSpec.ofChange deskLinesSpec)) deskLinesCard

/-- THE TIED CARD OF 'cribblelaw38.DeskBack'. -/
def deskBackCard : Claim7 := { stood := { row := deskBackRow, standIns := [], harness := (true, "6176c300b60ab960be2edc14025775c9d5cc4a6202919c5959f908214a6e4695"), looks := true }, kinds := [], alts := [], laidByText := true, laidKinds := [.pinned, .data, .sentinel, .sentinel, .data, .data, .data], laidTests := true, laidLooks := .later }
def DeskBackCardSaid : Prop := Claim7.holds Tryz.pinned (.plain (OpenSpec.ofChange deskBackSpec)) deskBackCard

/-- THE SECOND FORM's CARD OF 'cribblelaw38.DeskHex'. -/
def deskHexUptoCard : Claim7 := { stood := { row := deskHexUptoRow, standIns := [], harness := (true, "6176c300b60ab960be2edc14025775c9d5cc4a6202919c5959f908214a6e4695"), looks := true }, kinds := [], alts := [], laidByText := true, laidKinds := [.pinned, .data, .sentinel, .sentinel, .data, .data, .data], laidTests := true, laidLooks := .later }
def DeskHexUptoCardSaid : Prop := Claim7.holds Tryz.pinned (.plain (OpenSpec.upto deskHexSpec)) deskHexUptoCard

/-- THE SECOND FORM's CARD OF 'cribblelaw38.DeskLines'. -/
def deskLinesUptoCard : Claim7 := { stood := { row := deskLinesUptoRow, standIns := [], harness := (true, "6176c300b60ab960be2edc14025775c9d5cc4a6202919c5959f908214a6e4695"), looks := true }, kinds := [], alts := [], laidByText := true, laidKinds := [.pinned, .data, .sentinel, .sentinel, .data, .data, .data], laidTests := true, laidLooks := .later }
def DeskLinesUptoCardSaid : Prop := Claim7.holds Tryz.pinned (.plain (OpenSpec.upto deskLinesSpec)) deskLinesUptoCard

/-- THE SECOND FORM's CARD OF 'cribblelaw38.DeskBack'. -/
def deskBackUptoCard : Claim7 := { stood := { row := deskBackUptoRow, standIns := [], harness := (true, "6176c300b60ab960be2edc14025775c9d5cc4a6202919c5959f908214a6e4695"), looks := true }, kinds := [], alts := [], laidByText := true, laidKinds := [.pinned, .data, .sentinel, .sentinel, .data, .data, .data], laidTests := true, laidLooks := .later }
def DeskBackUptoCardSaid : Prop := Claim7.holds Tryz.pinned (.plain (OpenSpec.upto deskBackSpec)) deskBackUptoCard
end Rows
end Go.Proofs.YtmhmlneobbgadaaGreatDoor
