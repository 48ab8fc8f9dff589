/- The closed facts of TextPartsUpto's card, one by one. -/
import Derived.Test.YtngecegnlhmnlaaGreatDoorRows
import Derived.Test.YtngecegnlhmnlaaGreatDoorCards
import Derived.Test.YtngecegnlhmnlaaGreatDoorProg
import Derived.SevenTiedAt
namespace Go.Proofs.YtngecegnlhmnlaaGreatDoor.textPartsUpto
open Go
theorem cardW : Rows.textPartsUptoRow.wfByText (Rows.OpenSpec.upto Rows.textPartsSpec) = true := by kernel_rfl
theorem cardM : Tryz.pinned.checked.prog.mainIs = some (Rows.textPartsUptoCard.stood.harness.1, Rows.textPartsUptoCard.stood.harness.2.toList) := by kernel_rfl
theorem cardL : Rows.textPartsUptoCard.stood.looks = Tryz.pinned.checked.prog.looks [] := by kernel_rfl
theorem cardG : false = Rows.textPartsUptoRow.goesBy Tryz.pinned.checked.prog := by kernel_rfl
end Go.Proofs.YtngecegnlhmnlaaGreatDoor.textPartsUpto
