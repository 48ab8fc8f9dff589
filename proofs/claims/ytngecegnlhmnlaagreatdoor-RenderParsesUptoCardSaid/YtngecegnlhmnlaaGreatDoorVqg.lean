/- The closed facts of RenderParsesUpto's card, one by one. -/
import Derived.Test.YtngecegnlhmnlaaGreatDoorRows
import Derived.Test.YtngecegnlhmnlaaGreatDoorCards
import Derived.Test.YtngecegnlhmnlaaGreatDoorProg
import Derived.SevenTiedAt
namespace Go.Proofs.YtngecegnlhmnlaaGreatDoor.renderParsesUpto
open Go
theorem cardW : Rows.renderParsesUptoRow.wfByText (Rows.OpenSpec.upto Rows.renderParsesSpec) = true := by kernel_rfl
theorem cardM : Tryz.pinned.checked.prog.mainIs = some (Rows.renderParsesUptoCard.stood.harness.1, Rows.renderParsesUptoCard.stood.harness.2.toList) := by kernel_rfl
theorem cardL : Rows.renderParsesUptoCard.stood.looks = Tryz.pinned.checked.prog.looks [] := by kernel_rfl
theorem cardG : false = Rows.renderParsesUptoRow.goesBy Tryz.pinned.checked.prog := by kernel_rfl
end Go.Proofs.YtngecegnlhmnlaaGreatDoor.renderParsesUpto
