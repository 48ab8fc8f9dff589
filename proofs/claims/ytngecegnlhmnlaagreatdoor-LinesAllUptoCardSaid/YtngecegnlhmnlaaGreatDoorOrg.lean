/- The closed facts of LinesAllUpto's card, one by one. -/
import Derived.Test.YtngecegnlhmnlaaGreatDoorRows
import Derived.Test.YtngecegnlhmnlaaGreatDoorCards
import Derived.Test.YtngecegnlhmnlaaGreatDoorProg
import Derived.SevenTiedAt
namespace Go.Proofs.YtngecegnlhmnlaaGreatDoor.linesAllUpto
open Go
theorem cardW : Rows.linesAllUptoRow.wfByText (Rows.OpenSpec.upto Rows.linesAllSpec) = true := by kernel_rfl
theorem cardM : Tryz.pinned.checked.prog.mainIs = some (Rows.linesAllUptoCard.stood.harness.1, Rows.linesAllUptoCard.stood.harness.2.toList) := by kernel_rfl
theorem cardL : Rows.linesAllUptoCard.stood.looks = Tryz.pinned.checked.prog.looks [] := by kernel_rfl
theorem cardG : false = Rows.linesAllUptoRow.goesBy Tryz.pinned.checked.prog := by kernel_rfl
end Go.Proofs.YtngecegnlhmnlaaGreatDoor.linesAllUpto
