/-
  DERIVED. GIVEN WITH THE SEED: THE CARDS: each row of YtngecegnlhmnlaaGreatDoorRows.lean that lists a variable, with what it lists TIED to the program's text (the seventh form; the later family's looks); each row that meets fmt, with fmt's text TOLD by the authors' own Lean function (tested against real Go, not proved from fmt's source: count such statements apart). THE CARD IS WHAT COUNTS. Prove the row's statement (the work); the ties are given (YtngecegnlhmnlaaGreatDoorTie.lean); close each card by the builder's one call (the guide's Derived/Test/ToyasCard.lean, 'card_holds'). Laid BY PROGRAM, IN A SANDBOX (cutbox-door.mjs). By AI agents, Wed Nov 11 2026. No macro, syntax, notation, axiom, sorry.
-/
import Derived.Test.YtngecegnlhmnlaaGreatDoorRows
import GoSem.ClaimSeven
namespace Go.Proofs.YtngecegnlhmnlaaGreatDoor
namespace Rows

/-- THE TIED CARD OF 'cribblelaw18.LinesPrints'. -/
def linesPrintsCard : Claim7 := { stood := { row := linesPrintsRow, standIns := [], harness := (true, "f74a7557e522f5e94f1eb036270808319f0d10fb343ea4262cdb59e534287382"), looks := true }, kinds := [], alts := [], laidByText := true, laidKinds := [.data, .data, .data, .data, .sentinel, .sentinel, .pinned], laidTests := true, laidLooks := .later }
def LinesPrintsCardSaid : Prop := Claim7.holds Tryz.pinned (.plain (OpenSpec.ofChange linesPrintsSpec)) linesPrintsCard

/-- THE TIED CARD OF 'cribblelaw18.LinesParses'. -/
def linesParsesCard : Claim7 := { stood := { row := linesParsesRow, standIns := [], harness := (true, "f74a7557e522f5e94f1eb036270808319f0d10fb343ea4262cdb59e534287382"), looks := true }, kinds := [], alts := [], laidByText := true, laidKinds := [.data, .data, .data, .data, .sentinel, .sentinel, .pinned], laidTests := true, laidLooks := .later }
def LinesParsesCardSaid : Prop := Claim7.holds Tryz.pinned (.plain (OpenSpec.ofChange linesParsesSpec)) linesParsesCard

/-- THE TIED CARD OF 'cribblelaw18.LinesAll'. -/
def linesAllCard : Claim7 := { stood := { row := linesAllRow, standIns := [], harness := (true, "f74a7557e522f5e94f1eb036270808319f0d10fb343ea4262cdb59e534287382"), looks := true }, kinds := [], alts := [], laidByText := true, laidKinds := [.data, .data, .data, .data, .sentinel, .sentinel, .pinned], laidTests := true, laidLooks := .later }
def LinesAllCardSaid : Prop := Claim7.holds Tryz.pinned (.plain (OpenSpec.ofChange linesAllSpec)) linesAllCard

/-- THE TIED CARD OF 'cribblelaw18.LinesBack'. -/
def linesBackCard : Claim7 := { stood := { row := linesBackRow, standIns := [], harness := (true, "f74a7557e522f5e94f1eb036270808319f0d10fb343ea4262cdb59e534287382"), looks := true }, kinds := [], alts := [], laidByText := true, laidKinds := [.data, .data, .data, .data, .sentinel, .sentinel, .pinned], laidTests := true, laidLooks := .later }
def LinesBackCardSaid : Prop := Claim7.holds Tryz.pinned (.plain (OpenSpec.ofChange linesBackSpec)) linesBackCard

/-- THE TIED CARD OF 'cribblelaw18.LinesThere'. -/
def linesThereCard : Claim7 := { stood := { row := linesThereRow, standIns := [], harness := (true, "f74a7557e522f5e94f1eb036270808319f0d10fb343ea4262cdb59e534287382"), looks := true }, kinds := [], alts := [], laidByText := true, laidKinds := [.data, .data, .data, .data, .sentinel, .sentinel, .pinned], laidTests := true, laidLooks := .later }
def LinesThereCardSaid : Prop := Claim7.holds Tryz.pinned (.plain (OpenSpec.ofChange linesThereSpec)) linesThereCard

/-- THE TIED CARD OF 'cribblelaw18.LinesJoined'. -/
def linesJoinedCard : Claim7 := { stood := { row := linesJoinedRow, standIns := [], harness := (true, "f74a7557e522f5e94f1eb036270808319f0d10fb343ea4262cdb59e534287382"), looks := true }, kinds := [], alts := [], laidByText := true, laidKinds := [.data, .data, .data, .data, .sentinel, .sentinel, .pinned], laidTests := true, laidLooks := .later }
def LinesJoinedCardSaid : Prop := Claim7.holds Tryz.pinned (.plain (OpenSpec.ofChange linesJoinedSpec)) linesJoinedCard

/-- THE TIED CARD OF 'cribblelaw18.LinesTwo'. -/
def linesTwoCard : Claim7 := { stood := { row := linesTwoRow, standIns := [], harness := (true, "f74a7557e522f5e94f1eb036270808319f0d10fb343ea4262cdb59e534287382"), looks := true }, kinds := [], alts := [], laidByText := true, laidKinds := [.data, .data, .data, .data, .sentinel, .sentinel, .pinned], laidTests := true, laidLooks := .later }
def LinesTwoCardSaid : Prop := Claim7.holds Tryz.pinned (.plain (OpenSpec.ofChange linesTwoSpec)) linesTwoCard

/-- THE TIED CARD OF 'cribblelaw11.TextParts'. -/
def textPartsCard : Claim7 := { stood := { row := textPartsRow, standIns := [], harness := (true, "f74a7557e522f5e94f1eb036270808319f0d10fb343ea4262cdb59e534287382"), looks := true }, kinds := [], alts := [], laidByText := true, laidKinds := [.data, .data, .data, .data, .sentinel, .sentinel, .pinned], laidTests := true, laidLooks := .later }
def TextPartsCardSaid : Prop := Claim7.holds Tryz.pinned (.plain (OpenSpec.ofChange textPartsSpec)) textPartsCard

/-- THE TIED CARD OF 'cribblelaw11.TextPrints'. -/
def textPrintsCard : Claim7 := { stood := { row := textPrintsRow, standIns := [], harness := (true, "f74a7557e522f5e94f1eb036270808319f0d10fb343ea4262cdb59e534287382"), looks := true }, kinds := [], alts := [], laidByText := true, laidKinds := [.data, .data, .data, .data, .sentinel, .sentinel, .pinned], laidTests := true, laidLooks := .later }
def TextPrintsCardSaid : Prop := Claim7.holds Tryz.pinned (.plain (OpenSpec.ofChange textPrintsSpec)) textPrintsCard

/-- THE TIED CARD OF 'cribblelaw11.TextParses'. -/
def textParsesCard : Claim7 := { stood := { row := textParsesRow, standIns := [], harness := (true, "f74a7557e522f5e94f1eb036270808319f0d10fb343ea4262cdb59e534287382"), looks := true }, kinds := [], alts := [], laidByText := true, laidKinds := [.data, .data, .data, .data, .sentinel, .sentinel, .pinned], laidTests := true, laidLooks := .later }
def TextParsesCardSaid : Prop := Claim7.holds Tryz.pinned (.plain (OpenSpec.ofChange textParsesSpec)) textParsesCard

/-- THE TIED CARD OF 'cribblelaw11.TextBack'. -/
def textBackCard : Claim7 := { stood := { row := textBackRow, standIns := [], harness := (true, "f74a7557e522f5e94f1eb036270808319f0d10fb343ea4262cdb59e534287382"), looks := true }, kinds := [], alts := [], laidByText := true, laidKinds := [.data, .data, .data, .data, .sentinel, .sentinel, .pinned], laidTests := true, laidLooks := .later }
def TextBackCardSaid : Prop := Claim7.holds Tryz.pinned (.plain (OpenSpec.ofChange textBackSpec)) textBackCard

/-- THE TIED CARD OF 'cribblelaw11.TextThere'. -/
def textThereCard : Claim7 := { stood := { row := textThereRow, standIns := [], harness := (true, "f74a7557e522f5e94f1eb036270808319f0d10fb343ea4262cdb59e534287382"), looks := true }, kinds := [], alts := [], laidByText := true, laidKinds := [.data, .data, .data, .data, .sentinel, .sentinel, .pinned], laidTests := true, laidLooks := .later }
def TextThereCardSaid : Prop := Claim7.holds Tryz.pinned (.plain (OpenSpec.ofChange textThereSpec)) textThereCard

/-- THE TIED CARD OF 'cribblelaw30.RenderPrints'. -/
def renderPrintsCard : Claim7 := { stood := { row := renderPrintsRow, standIns := [], harness := (true, "f74a7557e522f5e94f1eb036270808319f0d10fb343ea4262cdb59e534287382"), looks := true }, kinds := [], alts := [], laidByText := true, laidKinds := [.data, .data, .data, .data, .sentinel, .sentinel, .pinned], laidTests := true, laidLooks := .later }
def RenderPrintsCardSaid : Prop := Claim7.holds Tryz.pinned (.plain (OpenSpec.ofChange renderPrintsSpec)) renderPrintsCard

/-- THE TIED CARD OF 'cribblelaw30.RenderParses'. -/
def renderParsesCard : Claim7 := { stood := { row := renderParsesRow, standIns := [], harness := (true, "f74a7557e522f5e94f1eb036270808319f0d10fb343ea4262cdb59e534287382"), looks := true }, kinds := [], alts := [], laidByText := true, laidKinds := [.data, .data, .data, .data, .sentinel, .sentinel, .pinned], laidTests := true, laidLooks := .later }
def RenderParsesCardSaid : Prop := Claim7.holds Tryz.pinned (.plain (OpenSpec.ofChange renderParsesSpec)) renderParsesCard

/-- THE TIED CARD OF 'cribblelaw30.RenderBack'. -/
def renderBackCard : Claim7 := { stood := { row := renderBackRow, standIns := [], harness := (true, "f74a7557e522f5e94f1eb036270808319f0d10fb343ea4262cdb59e534287382"), looks := true }, kinds := [], alts := [], laidByText := true, laidKinds := [.data, .data, .data, .data, .sentinel, .sentinel, .pinned], laidTests := true, laidLooks := .later }
def RenderBackCardSaid : Prop := Claim7.holds Tryz.pinned (.plain (OpenSpec.ofChange renderBackSpec)) renderBackCard

/-- THE TIED CARD OF 'cribblelaw30.RenderThere'. -/
def renderThereCard : Claim7 := { stood := { row := renderThereRow, standIns := [], harness := (true, "f74a7557e522f5e94f1eb036270808319f0d10fb343ea4262cdb59e534287382"), looks := true }, kinds := [], alts := [], laidByText := true, laidKinds := [.data, .data, .data, .data, .sentinel, .sentinel, .pinned], laidTests := true, laidLooks := .later }
def RenderThereCardSaid : Prop := Claim7.holds Tryz.pinned (.plain (OpenSpec.ofChange renderThereSpec)) renderThereCard

/-- THE TIED CARD OF 'cribblelaw30.RenderAdds'. -/
def renderAddsCard : Claim7 := { stood := { row := renderAddsRow, standIns := [], harness := (true, "f74a7557e522f5e94f1eb036270808319f0d10fb343ea4262cdb59e534287382"), looks := true }, kinds := [], alts := [], laidByText := true, laidKinds := [.data, .data, .data, .data, .sentinel, .sentinel, .pinned], laidTests := true, laidLooks := .later }
def RenderAddsCardSaid : Prop := Claim7.holds Tryz.pinned (.plain (OpenSpec.ofChange renderAddsSpec)) renderAddsCard

/-- THE SECOND FORM's CARD OF 'cribblelaw18.LinesPrints'. -/
def linesPrintsUptoCard : Claim7 := { stood := { row := linesPrintsUptoRow, standIns := [], harness := (true, "f74a7557e522f5e94f1eb036270808319f0d10fb343ea4262cdb59e534287382"), looks := true }, kinds := [], alts := [], laidByText := true, laidKinds := [.data, .data, .data, .data, .sentinel, .sentinel, .pinned], laidTests := true, laidLooks := .later }
def LinesPrintsUptoCardSaid : Prop := Claim7.holds Tryz.pinned (.plain (OpenSpec.upto linesPrintsSpec)) linesPrintsUptoCard

/-- THE SECOND FORM's CARD OF 'cribblelaw18.LinesParses'. -/
def linesParsesUptoCard : Claim7 := { stood := { row := linesParsesUptoRow, standIns := [], harness := (true, "f74a7557e522f5e94f1eb036270808319f0d10fb343ea4262cdb59e534287382"), looks := true }, kinds := [], alts := [], laidByText := true, laidKinds := [.data, .data, .data, .data, .sentinel, .sentinel, .pinned], laidTests := true, laidLooks := .later }
def LinesParsesUptoCardSaid : Prop := Claim7.holds Tryz.pinned (.plain (OpenSpec.upto linesParsesSpec)) linesParsesUptoCard

/-- THE SECOND FORM's CARD OF 'cribblelaw18.LinesAll'. -/
def linesAllUptoCard : Claim7 := { stood := { row := linesAllUptoRow, standIns := [], harness := (true, "f74a7557e522f5e94f1eb036270808319f0d10fb343ea4262cdb59e534287382"), looks := true }, kinds := [], alts := [], laidByText := true, laidKinds := [.data, .data, .data, .data, .sentinel, .sentinel, .pinned], laidTests := true, laidLooks := .later }
def LinesAllUptoCardSaid : Prop := Claim7.holds Tryz.pinned (.plain (OpenSpec.upto linesAllSpec)) linesAllUptoCard

/-- THE SECOND FORM's CARD OF 'cribblelaw18.LinesBack'. -/
def linesBackUptoCard : Claim7 := { stood := { row := linesBackUptoRow, standIns := [], harness := (true, "f74a7557e522f5e94f1eb036270808319f0d10fb343ea4262cdb59e534287382"), looks := true }, kinds := [], alts := [], laidByText := true, laidKinds := [.data, .data, .data, .data, .sentinel, .sentinel, .pinned], laidTests := true, laidLooks := .later }
def LinesBackUptoCardSaid : Prop := Claim7.holds Tryz.pinned (.plain (OpenSpec.upto linesBackSpec)) linesBackUptoCard

/-- THE SECOND FORM's CARD OF 'cribblelaw18.LinesThere'. -/
def linesThereUptoCard : Claim7 := { stood := { row := linesThereUptoRow, standIns := [], harness := (true, "f74a7557e522f5e94f1eb036270808319f0d10fb343ea4262cdb59e534287382"), looks := true }, kinds := [], alts := [], laidByText := true, laidKinds := [.data, .data, .data, .data, .sentinel, .sentinel, .pinned], laidTests := true, laidLooks := .later }
def LinesThereUptoCardSaid : Prop := Claim7.holds Tryz.pinned (.plain (OpenSpec.upto linesThereSpec)) linesThereUptoCard

/-- THE SECOND FORM's CARD OF 'cribblelaw18.LinesJoined'. -/
def linesJoinedUptoCard : Claim7 := { stood := { row := linesJoinedUptoRow, standIns := [], harness := (true, "f74a7557e522f5e94f1eb036270808319f0d10fb343ea4262cdb59e534287382"), looks := true }, kinds := [], alts := [], laidByText := true, laidKinds := [.data, .data, .data, .data, .sentinel, .sentinel, .pinned], laidTests := true, laidLooks := .later }
def LinesJoinedUptoCardSaid : Prop := Claim7.holds Tryz.pinned (.plain (OpenSpec.upto linesJoinedSpec)) linesJoinedUptoCard

/-- THE SECOND FORM's CARD OF 'cribblelaw18.LinesTwo'. -/
def linesTwoUptoCard : Claim7 := { stood := { row := linesTwoUptoRow, standIns := [], harness := (true, "f74a7557e522f5e94f1eb036270808319f0d10fb343ea4262cdb59e534287382"), looks := true }, kinds := [], alts := [], laidByText := true, laidKinds := [.data, .data, .data, .data, .sentinel, .sentinel, .pinned], laidTests := true, laidLooks := .later }
def LinesTwoUptoCardSaid : Prop := Claim7.holds Tryz.pinned (.plain (OpenSpec.upto linesTwoSpec)) linesTwoUptoCard

/-- THE SECOND FORM's CARD OF 'cribblelaw11.TextParts'. -/
def textPartsUptoCard : Claim7 := { stood := { row := textPartsUptoRow, standIns := [], harness := (true, "f74a7557e522f5e94f1eb036270808319f0d10fb343ea4262cdb59e534287382"), looks := true }, kinds := [], alts := [], laidByText := true, laidKinds := [.data, .data, .data, .data, .sentinel, .sentinel, .pinned], laidTests := true, laidLooks := .later }
def TextPartsUptoCardSaid : Prop := Claim7.holds Tryz.pinned (.plain (OpenSpec.upto textPartsSpec)) textPartsUptoCard

/-- THE SECOND FORM's CARD OF 'cribblelaw11.TextPrints'. -/
def textPrintsUptoCard : Claim7 := { stood := { row := textPrintsUptoRow, standIns := [], harness := (true, "f74a7557e522f5e94f1eb036270808319f0d10fb343ea4262cdb59e534287382"), looks := true }, kinds := [], alts := [], laidByText := true, laidKinds := [.data, .data, .data, .data, .sentinel, .sentinel, .pinned], laidTests := true, laidLooks := .later }
def TextPrintsUptoCardSaid : Prop := Claim7.holds Tryz.pinned (.plain (OpenSpec.upto textPrintsSpec)) textPrintsUptoCard

/-- THE SECOND FORM's CARD OF 'cribblelaw11.TextParses'. -/
def textParsesUptoCard : Claim7 := { stood := { row := textParsesUptoRow, standIns := [], harness := (true, "f74a7557e522f5e94f1eb036270808319f0d10fb343ea4262cdb59e534287382"), looks := true }, kinds := [], alts := [], laidByText := true, laidKinds := [.data, .data, .data, .data, .sentinel, .sentinel, .pinned], laidTests := true, laidLooks := .later }
def TextParsesUptoCardSaid : Prop := Claim7.holds Tryz.pinned (.plain (OpenSpec.upto textParsesSpec)) textParsesUptoCard

/-- THE SECOND FORM's CARD OF 'cribblelaw11.TextBack'. -/
def textBackUptoCard : Claim7 := { stood := { row := textBackUptoRow, standIns := [], harness := (true, "f74a7557e522f5e94f1eb036270808319f0d10fb343ea4262cdb59e534287382"), looks := true }, kinds := [], alts := [], laidByText := true, laidKinds := [.data, .data, .data, .data, .sentinel, .sentinel, .pinned], laidTests := true, laidLooks := .later }
def TextBackUptoCardSaid : Prop := Claim7.holds Tryz.pinned (.plain (OpenSpec.upto textBackSpec)) textBackUptoCard

/-- THE SECOND FORM's CARD OF 'cribblelaw11.TextThere'. -/
def textThereUptoCard : Claim7 := { stood := { row := textThereUptoRow, standIns := [], harness := (true, "f74a7557e522f5e94f1eb036270808319f0d10fb343ea4262cdb59e534287382"), looks := true }, kinds := [], alts := [], laidByText := true, laidKinds := [.data, .data, .data, .data, .sentinel, .sentinel, .pinned], laidTests := true, laidLooks := .later }
def TextThereUptoCardSaid : Prop := Claim7.holds Tryz.pinned (.plain (OpenSpec.upto textThereSpec)) textThereUptoCard

/-- THE SECOND FORM's CARD OF 'cribblelaw30.RenderPrints'. -/
def renderPrintsUptoCard : Claim7 := { stood := { row := renderPrintsUptoRow, standIns := [], harness := (true, "f74a7557e522f5e94f1eb036270808319f0d10fb343ea4262cdb59e534287382"), looks := true }, kinds := [], alts := [], laidByText := true, laidKinds := [.data, .data, .data, .data, .sentinel, .sentinel, .pinned], laidTests := true, laidLooks := .later }
def RenderPrintsUptoCardSaid : Prop := Claim7.holds Tryz.pinned (.plain (OpenSpec.upto renderPrintsSpec)) renderPrintsUptoCard

/-- THE SECOND FORM's CARD OF 'cribblelaw30.RenderParses'. -/
def renderParsesUptoCard : Claim7 := { stood := { row := renderParsesUptoRow, standIns := [], harness := (true, "f74a7557e522f5e94f1eb036270808319f0d10fb343ea4262cdb59e534287382"), looks := true }, kinds := [], alts := [], laidByText := true, laidKinds := [.data, .data, .data, .data, .sentinel, .sentinel, .pinned], laidTests := true, laidLooks := .later }
def RenderParsesUptoCardSaid : Prop := Claim7.holds Tryz.pinned (.plain (OpenSpec.upto renderParsesSpec)) renderParsesUptoCard

/-- THE SECOND FORM's CARD OF 'cribblelaw30.RenderBack'. -/
def renderBackUptoCard : Claim7 := { stood := { row := renderBackUptoRow, standIns := [], harness := (true, "f74a7557e522f5e94f1eb036270808319f0d10fb343ea4262cdb59e534287382"), looks := true }, kinds := [], alts := [], laidByText := true, laidKinds := [.data, .data, .data, .data, .sentinel, .sentinel, .pinned], laidTests := true, laidLooks := .later }
def RenderBackUptoCardSaid : Prop := Claim7.holds Tryz.pinned (.plain (OpenSpec.upto renderBackSpec)) renderBackUptoCard

/-- THE SECOND FORM's CARD OF 'cribblelaw30.RenderThere'. -/
def renderThereUptoCard : Claim7 := { stood := { row := renderThereUptoRow, standIns := [], harness := (true, "f74a7557e522f5e94f1eb036270808319f0d10fb343ea4262cdb59e534287382"), looks := true }, kinds := [], alts := [], laidByText := true, laidKinds := [.data, .data, .data, .data, .sentinel, .sentinel, .pinned], laidTests := true, laidLooks := .later }
def RenderThereUptoCardSaid : Prop := Claim7.holds Tryz.pinned (.plain (OpenSpec.upto renderThereSpec)) renderThereUptoCard

/-- THE SECOND FORM's CARD OF 'cribblelaw30.RenderAdds'. -/
def renderAddsUptoCard : Claim7 := { stood := { row := renderAddsUptoRow, standIns := [], harness := (true, "f74a7557e522f5e94f1eb036270808319f0d10fb343ea4262cdb59e534287382"), looks := true }, kinds := [], alts := [], laidByText := true, laidKinds := [.data, .data, .data, .data, .sentinel, .sentinel, .pinned], laidTests := true, laidLooks := .later }
def RenderAddsUptoCardSaid : Prop := Claim7.holds Tryz.pinned (.plain (OpenSpec.upto renderAddsSpec)) renderAddsUptoCard
end Rows
end Go.Proofs.YtngecegnlhmnlaaGreatDoor
