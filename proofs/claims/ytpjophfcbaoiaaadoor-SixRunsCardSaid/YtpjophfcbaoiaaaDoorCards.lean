/-
  DERIVED. GIVEN WITH THE SEED: THE CARDS: each row of YtpjophfcbaoiaaaDoorRows.lean that lists a variable, with what it lists TIED to the program's text (the seventh form; the later family's looks); each row that meets fmt, with fmt's text TOLD by the authors' own Lean function (tested against real Go, not proved from fmt's source: count such statements apart). THE CARD IS WHAT COUNTS. Prove the row's statement (the work); the ties are given (YtpjophfcbaoiaaaDoorTie.lean); close each card by the builder's one call (the guide's Derived/Test/ToyasCard.lean, 'card_holds'). Laid BY PROGRAM, IN A SANDBOX (cutbox-door.mjs). By AI agents, Wed Nov 11 2026. No macro, syntax, notation, axiom, sorry.
-/
import Derived.Test.YtpjophfcbaoiaaaDoorRows
import GoSem.ClaimSeven
namespace Go.Proofs.YtpjophfcbaoiaaaDoor
namespace Rows

/-- THE TIED CARD OF 'cribblelaw03.FourPrints'. -/
def fourPrintsCard : Claim7 := { stood := { row := fourPrintsRow, standIns := [], harness := (true, "209ff717a42ca7e135cdbb6e5aeb0c5b9227271340a1c355ff8ec7362c278c6a"), looks := true }, kinds := [], alts := [], laidByText := true, laidKinds := [.data, .data, .data, .data, .sentinel, .sentinel, .pinned], laidTests := true, laidLooks := .later }
def FourPrintsCardSaid : Prop := Claim7.holds Tryd.pinned (.plain (OpenSpec.ofChange fourPrintsSpec)) fourPrintsCard

/-- THE TIED CARD OF 'cribblelaw03.FourParses'. -/
def fourParsesCard : Claim7 := { stood := { row := fourParsesRow, standIns := [], harness := (true, "209ff717a42ca7e135cdbb6e5aeb0c5b9227271340a1c355ff8ec7362c278c6a"), looks := true }, kinds := [], alts := [], laidByText := true, laidKinds := [.data, .data, .data, .data, .sentinel, .sentinel, .pinned], laidTests := true, laidLooks := .later }
def FourParsesCardSaid : Prop := Claim7.holds Tryd.pinned (.plain (OpenSpec.ofChange fourParsesSpec)) fourParsesCard

/-- THE TIED CARD OF 'cribblelaw03.FourBack'. -/
def fourBackCard : Claim7 := { stood := { row := fourBackRow, standIns := [], harness := (true, "209ff717a42ca7e135cdbb6e5aeb0c5b9227271340a1c355ff8ec7362c278c6a"), looks := true }, kinds := [], alts := [], laidByText := true, laidKinds := [.data, .data, .data, .data, .sentinel, .sentinel, .pinned], laidTests := true, laidLooks := .later }
def FourBackCardSaid : Prop := Claim7.holds Tryd.pinned (.plain (OpenSpec.ofChange fourBackSpec)) fourBackCard

/-- THE TIED CARD OF 'cribblelaw04.SixPrints'. -/
def sixPrintsCard : Claim7 := { stood := { row := sixPrintsRow, standIns := [], harness := (true, "209ff717a42ca7e135cdbb6e5aeb0c5b9227271340a1c355ff8ec7362c278c6a"), looks := true }, kinds := [], alts := [], laidByText := true, laidKinds := [.data, .data, .data, .data, .sentinel, .sentinel, .pinned], laidTests := true, laidLooks := .later }
def SixPrintsCardSaid : Prop := Claim7.holds Tryd.pinned (.plain (OpenSpec.ofChange sixPrintsSpec)) sixPrintsCard

/-- THE TIED CARD OF 'cribblelaw04.SixParses'. -/
def sixParsesCard : Claim7 := { stood := { row := sixParsesRow, standIns := [], harness := (true, "209ff717a42ca7e135cdbb6e5aeb0c5b9227271340a1c355ff8ec7362c278c6a"), looks := true }, kinds := [], alts := [], laidByText := true, laidKinds := [.data, .data, .data, .data, .sentinel, .sentinel, .pinned], laidTests := true, laidLooks := .later }
def SixParsesCardSaid : Prop := Claim7.holds Tryd.pinned (.plain (OpenSpec.ofChange sixParsesSpec)) sixParsesCard

/-- THE TIED CARD OF 'cribblelaw04.SixBack'. -/
def sixBackCard : Claim7 := { stood := { row := sixBackRow, standIns := [], harness := (true, "209ff717a42ca7e135cdbb6e5aeb0c5b9227271340a1c355ff8ec7362c278c6a"), looks := true }, kinds := [], alts := [], laidByText := true, laidKinds := [.data, .data, .data, .data, .sentinel, .sentinel, .pinned], laidTests := true, laidLooks := .later }
def SixBackCardSaid : Prop := Claim7.holds Tryd.pinned (.plain (OpenSpec.ofChange sixBackSpec)) sixBackCard

/-- THE TIED CARD OF 'cribblelaw04.SixRuns'. -/
def sixRunsCard : Claim7 := { stood := { row := sixRunsRow, standIns := [], harness := (true, "209ff717a42ca7e135cdbb6e5aeb0c5b9227271340a1c355ff8ec7362c278c6a"), looks := true }, kinds := [], alts := [], laidByText := true, laidKinds := [.data, .data, .data, .data, .sentinel, .sentinel, .pinned], laidTests := true, laidLooks := .later }
def SixRunsCardSaid : Prop := Claim7.holds Tryd.pinned (.plain (OpenSpec.ofChange sixRunsSpec)) sixRunsCard

/-- THE SECOND FORM's CARD OF 'cribblelaw03.FourPrints'. -/
def fourPrintsUptoCard : Claim7 := { stood := { row := fourPrintsUptoRow, standIns := [], harness := (true, "209ff717a42ca7e135cdbb6e5aeb0c5b9227271340a1c355ff8ec7362c278c6a"), looks := true }, kinds := [], alts := [], laidByText := true, laidKinds := [.data, .data, .data, .data, .sentinel, .sentinel, .pinned], laidTests := true, laidLooks := .later }
def FourPrintsUptoCardSaid : Prop := Claim7.holds Tryd.pinned (.plain (OpenSpec.upto fourPrintsSpec)) fourPrintsUptoCard

/-- THE SECOND FORM's CARD OF 'cribblelaw03.FourParses'. -/
def fourParsesUptoCard : Claim7 := { stood := { row := fourParsesUptoRow, standIns := [], harness := (true, "209ff717a42ca7e135cdbb6e5aeb0c5b9227271340a1c355ff8ec7362c278c6a"), looks := true }, kinds := [], alts := [], laidByText := true, laidKinds := [.data, .data, .data, .data, .sentinel, .sentinel, .pinned], laidTests := true, laidLooks := .later }
def FourParsesUptoCardSaid : Prop := Claim7.holds Tryd.pinned (.plain (OpenSpec.upto fourParsesSpec)) fourParsesUptoCard

/-- THE SECOND FORM's CARD OF 'cribblelaw03.FourBack'. -/
def fourBackUptoCard : Claim7 := { stood := { row := fourBackUptoRow, standIns := [], harness := (true, "209ff717a42ca7e135cdbb6e5aeb0c5b9227271340a1c355ff8ec7362c278c6a"), looks := true }, kinds := [], alts := [], laidByText := true, laidKinds := [.data, .data, .data, .data, .sentinel, .sentinel, .pinned], laidTests := true, laidLooks := .later }
def FourBackUptoCardSaid : Prop := Claim7.holds Tryd.pinned (.plain (OpenSpec.upto fourBackSpec)) fourBackUptoCard

/-- THE SECOND FORM's CARD OF 'cribblelaw04.SixPrints'. -/
def sixPrintsUptoCard : Claim7 := { stood := { row := sixPrintsUptoRow, standIns := [], harness := (true, "209ff717a42ca7e135cdbb6e5aeb0c5b9227271340a1c355ff8ec7362c278c6a"), looks := true }, kinds := [], alts := [], laidByText := true, laidKinds := [.data, .data, .data, .data, .sentinel, .sentinel, .pinned], laidTests := true, laidLooks := .later }
def SixPrintsUptoCardSaid : Prop := Claim7.holds Tryd.pinned (.plain (OpenSpec.upto sixPrintsSpec)) sixPrintsUptoCard

/-- THE SECOND FORM's CARD OF 'cribblelaw04.SixParses'. -/
def sixParsesUptoCard : Claim7 := { stood := { row := sixParsesUptoRow, standIns := [], harness := (true, "209ff717a42ca7e135cdbb6e5aeb0c5b9227271340a1c355ff8ec7362c278c6a"), looks := true }, kinds := [], alts := [], laidByText := true, laidKinds := [.data, .data, .data, .data, .sentinel, .sentinel, .pinned], laidTests := true, laidLooks := .later }
def SixParsesUptoCardSaid : Prop := Claim7.holds Tryd.pinned (.plain (OpenSpec.upto sixParsesSpec)) sixParsesUptoCard

/-- THE SECOND FORM's CARD OF 'cribblelaw04.SixBack'. -/
def sixBackUptoCard : Claim7 := { stood := { row := sixBackUptoRow, standIns := [], harness := (true, "209ff717a42ca7e135cdbb6e5aeb0c5b9227271340a1c355ff8ec7362c278c6a"), looks := true }, kinds := [], alts := [], laidByText := true, laidKinds := [.data, .data, .data, .data, .sentinel, .sentinel, .pinned], laidTests := true, laidLooks := .later }
def SixBackUptoCardSaid : Prop := Claim7.holds Tryd.pinned (.plain (OpenSpec.upto sixBackSpec)) sixBackUptoCard

/-- THE SECOND FORM's CARD OF 'cribblelaw04.SixRuns'. -/
def sixRunsUptoCard : Claim7 := { stood := { row := sixRunsUptoRow, standIns := [], harness := (true, "209ff717a42ca7e135cdbb6e5aeb0c5b9227271340a1c355ff8ec7362c278c6a"), looks := true }, kinds := [], alts := [], laidByText := true, laidKinds := [.data, .data, .data, .data, .sentinel, .sentinel, .pinned], laidTests := true, laidLooks := .later }
def SixRunsUptoCardSaid : Prop := Claim7.holds Tryd.pinned (.plain (OpenSpec.upto sixRunsSpec)) sixRunsUptoCard
end Rows
end Go.Proofs.YtpjophfcbaoiaaaDoor
