/- The closed facts of TextBackUpto's card, one by one. -/
import Derived.Test.YtngecegnlhmnlaaGreatDoorRows
import Derived.Test.YtngecegnlhmnlaaGreatDoorCards
import Derived.Test.YtngecegnlhmnlaaGreatDoorProg
import Derived.SevenTiedAt
namespace Go.Proofs.YtngecegnlhmnlaaGreatDoor.textBackUpto
open Go
theorem cardW : Rows.textBackUptoRow.wfByText (Rows.OpenSpec.upto Rows.textBackSpec) = true := by kernel_rfl
theorem cardM : Tryz.pinned.checked.prog.mainIs = some (Rows.textBackUptoCard.stood.harness.1, Rows.textBackUptoCard.stood.harness.2.toList) := by kernel_rfl
theorem cardL : Rows.textBackUptoCard.stood.looks = Tryz.pinned.checked.prog.looks [] := by kernel_rfl
theorem cardG : false = Rows.textBackUptoRow.goesBy Tryz.pinned.checked.prog := by kernel_rfl
end Go.Proofs.YtngecegnlhmnlaaGreatDoor.textBackUpto
