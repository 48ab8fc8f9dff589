/- The closed facts of TextThereUpto's card, one by one. -/
import Derived.Test.YtngecegnlhmnlaaGreatDoorRows
import Derived.Test.YtngecegnlhmnlaaGreatDoorCards
import Derived.Test.YtngecegnlhmnlaaGreatDoorProg
import Derived.SevenTiedAt
namespace Go.Proofs.YtngecegnlhmnlaaGreatDoor.textThereUpto
open Go
theorem cardW : Rows.textThereUptoRow.wfByText (Rows.OpenSpec.upto Rows.textThereSpec) = true := by kernel_rfl
theorem cardM : Tryz.pinned.checked.prog.mainIs = some (Rows.textThereUptoCard.stood.harness.1, Rows.textThereUptoCard.stood.harness.2.toList) := by kernel_rfl
theorem cardL : Rows.textThereUptoCard.stood.looks = Tryz.pinned.checked.prog.looks [] := by kernel_rfl
theorem cardG : false = Rows.textThereUptoRow.goesBy Tryz.pinned.checked.prog := by kernel_rfl
end Go.Proofs.YtngecegnlhmnlaaGreatDoor.textThereUpto
