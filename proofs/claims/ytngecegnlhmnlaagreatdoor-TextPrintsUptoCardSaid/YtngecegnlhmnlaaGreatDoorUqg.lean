/- The closed facts of TextPrintsUpto's card, one by one. -/
import Derived.Test.YtngecegnlhmnlaaGreatDoorRows
import Derived.Test.YtngecegnlhmnlaaGreatDoorCards
import Derived.Test.YtngecegnlhmnlaaGreatDoorProg
import Derived.SevenTiedAt
namespace Go.Proofs.YtngecegnlhmnlaaGreatDoor.textPrintsUpto
open Go
theorem cardW : Rows.textPrintsUptoRow.wfByText (Rows.OpenSpec.upto Rows.textPrintsSpec) = true := by kernel_rfl
theorem cardM : Tryz.pinned.checked.prog.mainIs = some (Rows.textPrintsUptoCard.stood.harness.1, Rows.textPrintsUptoCard.stood.harness.2.toList) := by kernel_rfl
theorem cardL : Rows.textPrintsUptoCard.stood.looks = Tryz.pinned.checked.prog.looks [] := by kernel_rfl
theorem cardG : false = Rows.textPrintsUptoRow.goesBy Tryz.pinned.checked.prog := by kernel_rfl
end Go.Proofs.YtngecegnlhmnlaaGreatDoor.textPrintsUpto
