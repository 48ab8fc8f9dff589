/- The closed facts of RenderBackUpto's card, one by one. -/
import Derived.Test.YtngecegnlhmnlaaGreatDoorRows
import Derived.Test.YtngecegnlhmnlaaGreatDoorCards
import Derived.Test.YtngecegnlhmnlaaGreatDoorProg
import Derived.SevenTiedAt
namespace Go.Proofs.YtngecegnlhmnlaaGreatDoor.renderBackUpto
open Go
theorem cardW : Rows.renderBackUptoRow.wfByText (Rows.OpenSpec.upto Rows.renderBackSpec) = true := by kernel_rfl
theorem cardM : Tryz.pinned.checked.prog.mainIs = some (Rows.renderBackUptoCard.stood.harness.1, Rows.renderBackUptoCard.stood.harness.2.toList) := by kernel_rfl
theorem cardL : Rows.renderBackUptoCard.stood.looks = Tryz.pinned.checked.prog.looks [] := by kernel_rfl
theorem cardG : false = Rows.renderBackUptoRow.goesBy Tryz.pinned.checked.prog := by kernel_rfl
end Go.Proofs.YtngecegnlhmnlaaGreatDoor.renderBackUpto
