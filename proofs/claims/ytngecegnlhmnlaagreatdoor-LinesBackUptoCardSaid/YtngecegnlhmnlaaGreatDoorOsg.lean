/- The closed facts of LinesBackUpto's card, one by one. -/
import Derived.Test.YtngecegnlhmnlaaGreatDoorRows
import Derived.Test.YtngecegnlhmnlaaGreatDoorCards
import Derived.Test.YtngecegnlhmnlaaGreatDoorProg
import Derived.SevenTiedAt
namespace Go.Proofs.YtngecegnlhmnlaaGreatDoor.linesBackUpto
open Go
theorem cardW : Rows.linesBackUptoRow.wfByText (Rows.OpenSpec.upto Rows.linesBackSpec) = true := by kernel_rfl
theorem cardM : Tryz.pinned.checked.prog.mainIs = some (Rows.linesBackUptoCard.stood.harness.1, Rows.linesBackUptoCard.stood.harness.2.toList) := by kernel_rfl
theorem cardL : Rows.linesBackUptoCard.stood.looks = Tryz.pinned.checked.prog.looks [] := by kernel_rfl
theorem cardG : false = Rows.linesBackUptoRow.goesBy Tryz.pinned.checked.prog := by kernel_rfl
end Go.Proofs.YtngecegnlhmnlaaGreatDoor.linesBackUpto
