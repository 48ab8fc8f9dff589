/- The closed facts of TextParsesUpto's card, one by one. -/
import Derived.Test.YtngecegnlhmnlaaGreatDoorRows
import Derived.Test.YtngecegnlhmnlaaGreatDoorCards
import Derived.Test.YtngecegnlhmnlaaGreatDoorProg
import Derived.SevenTiedAt
namespace Go.Proofs.YtngecegnlhmnlaaGreatDoor.textParsesUpto
open Go
theorem cardW : Rows.textParsesUptoRow.wfByText (Rows.OpenSpec.upto Rows.textParsesSpec) = true := by kernel_rfl
theorem cardM : Tryz.pinned.checked.prog.mainIs = some (Rows.textParsesUptoCard.stood.harness.1, Rows.textParsesUptoCard.stood.harness.2.toList) := by kernel_rfl
theorem cardL : Rows.textParsesUptoCard.stood.looks = Tryz.pinned.checked.prog.looks [] := by kernel_rfl
theorem cardG : false = Rows.textParsesUptoRow.goesBy Tryz.pinned.checked.prog := by kernel_rfl
end Go.Proofs.YtngecegnlhmnlaaGreatDoor.textParsesUpto
