/- The closed facts of RenderThereUpto's card, one by one. -/
import Derived.Test.YtngecegnlhmnlaaGreatDoorRows
import Derived.Test.YtngecegnlhmnlaaGreatDoorCards
import Derived.Test.YtngecegnlhmnlaaGreatDoorProg
import Derived.SevenTiedAt
namespace Go.Proofs.YtngecegnlhmnlaaGreatDoor.renderThereUpto
open Go
theorem cardW : Rows.renderThereUptoRow.wfByText (Rows.OpenSpec.upto Rows.renderThereSpec) = true := by kernel_rfl
theorem cardM : Tryz.pinned.checked.prog.mainIs = some (Rows.renderThereUptoCard.stood.harness.1, Rows.renderThereUptoCard.stood.harness.2.toList) := by kernel_rfl
theorem cardL : Rows.renderThereUptoCard.stood.looks = Tryz.pinned.checked.prog.looks [] := by kernel_rfl
theorem cardG : false = Rows.renderThereUptoRow.goesBy Tryz.pinned.checked.prog := by kernel_rfl
end Go.Proofs.YtngecegnlhmnlaaGreatDoor.renderThereUpto
