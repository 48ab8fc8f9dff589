/- The closed facts of LinesPrintsUpto's card, one by one. -/
import Derived.Test.YtngecegnlhmnlaaGreatDoorRows
import Derived.Test.YtngecegnlhmnlaaGreatDoorCards
import Derived.Test.YtngecegnlhmnlaaGreatDoorProg
import Derived.SevenTiedAt
namespace Go.Proofs.YtngecegnlhmnlaaGreatDoor.linesPrintsUpto
open Go
theorem cardW : Rows.linesPrintsUptoRow.wfByText (Rows.OpenSpec.upto Rows.linesPrintsSpec) = true := by kernel_rfl
theorem cardM : Tryz.pinned.checked.prog.mainIs = some (Rows.linesPrintsUptoCard.stood.harness.1, Rows.linesPrintsUptoCard.stood.harness.2.toList) := by kernel_rfl
theorem cardL : Rows.linesPrintsUptoCard.stood.looks = Tryz.pinned.checked.prog.looks [] := by kernel_rfl
theorem cardG : false = Rows.linesPrintsUptoRow.goesBy Tryz.pinned.checked.prog := by kernel_rfl
end Go.Proofs.YtngecegnlhmnlaaGreatDoor.linesPrintsUpto
