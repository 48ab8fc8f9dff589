/- The closed facts of LinesJoinedUpto's card, one by one. -/
import Derived.Test.YtngecegnlhmnlaaGreatDoorRows
import Derived.Test.YtngecegnlhmnlaaGreatDoorCards
import Derived.Test.YtngecegnlhmnlaaGreatDoorProg
import Derived.SevenTiedAt
namespace Go.Proofs.YtngecegnlhmnlaaGreatDoor.linesJoinedUpto
open Go
theorem cardW : Rows.linesJoinedUptoRow.wfByText (Rows.OpenSpec.upto Rows.linesJoinedSpec) = true := by kernel_rfl
theorem cardM : Tryz.pinned.checked.prog.mainIs = some (Rows.linesJoinedUptoCard.stood.harness.1, Rows.linesJoinedUptoCard.stood.harness.2.toList) := by kernel_rfl
theorem cardL : Rows.linesJoinedUptoCard.stood.looks = Tryz.pinned.checked.prog.looks [] := by kernel_rfl
theorem cardG : false = Rows.linesJoinedUptoRow.goesBy Tryz.pinned.checked.prog := by kernel_rfl
end Go.Proofs.YtngecegnlhmnlaaGreatDoor.linesJoinedUpto
