/- The closed facts of RenderPrintsUpto's card, one by one. -/
import Derived.Test.YtngecegnlhmnlaaGreatDoorRows
import Derived.Test.YtngecegnlhmnlaaGreatDoorCards
import Derived.Test.YtngecegnlhmnlaaGreatDoorProg
import Derived.SevenTiedAt
namespace Go.Proofs.YtngecegnlhmnlaaGreatDoor.renderPrintsUpto
open Go
theorem cardW : Rows.renderPrintsUptoRow.wfByText (Rows.OpenSpec.upto Rows.renderPrintsSpec) = true := by kernel_rfl
theorem cardM : Tryz.pinned.checked.prog.mainIs = some (Rows.renderPrintsUptoCard.stood.harness.1, Rows.renderPrintsUptoCard.stood.harness.2.toList) := by kernel_rfl
theorem cardL : Rows.renderPrintsUptoCard.stood.looks = Tryz.pinned.checked.prog.looks [] := by kernel_rfl
theorem cardG : false = Rows.renderPrintsUptoRow.goesBy Tryz.pinned.checked.prog := by kernel_rfl
end Go.Proofs.YtngecegnlhmnlaaGreatDoor.renderPrintsUpto
