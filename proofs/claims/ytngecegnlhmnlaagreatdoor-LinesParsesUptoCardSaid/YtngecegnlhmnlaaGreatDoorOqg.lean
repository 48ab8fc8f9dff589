/- The closed facts of LinesParsesUpto's card, one by one. -/
import Derived.Test.YtngecegnlhmnlaaGreatDoorRows
import Derived.Test.YtngecegnlhmnlaaGreatDoorCards
import Derived.Test.YtngecegnlhmnlaaGreatDoorProg
import Derived.SevenTiedAt
namespace Go.Proofs.YtngecegnlhmnlaaGreatDoor.linesParsesUpto
open Go
theorem cardW : Rows.linesParsesUptoRow.wfByText (Rows.OpenSpec.upto Rows.linesParsesSpec) = true := by kernel_rfl
theorem cardM : Tryz.pinned.checked.prog.mainIs = some (Rows.linesParsesUptoCard.stood.harness.1, Rows.linesParsesUptoCard.stood.harness.2.toList) := by kernel_rfl
theorem cardL : Rows.linesParsesUptoCard.stood.looks = Tryz.pinned.checked.prog.looks [] := by kernel_rfl
theorem cardG : false = Rows.linesParsesUptoRow.goesBy Tryz.pinned.checked.prog := by kernel_rfl
end Go.Proofs.YtngecegnlhmnlaaGreatDoor.linesParsesUpto
