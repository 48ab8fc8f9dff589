/- The closed facts of LinesThereUpto's card, one by one. -/
import Derived.Test.YtngecegnlhmnlaaGreatDoorRows
import Derived.Test.YtngecegnlhmnlaaGreatDoorCards
import Derived.Test.YtngecegnlhmnlaaGreatDoorProg
import Derived.SevenTiedAt
namespace Go.Proofs.YtngecegnlhmnlaaGreatDoor.linesThereUpto
open Go
theorem cardW : Rows.linesThereUptoRow.wfByText (Rows.OpenSpec.upto Rows.linesThereSpec) = true := by kernel_rfl
theorem cardM : Tryz.pinned.checked.prog.mainIs = some (Rows.linesThereUptoCard.stood.harness.1, Rows.linesThereUptoCard.stood.harness.2.toList) := by kernel_rfl
theorem cardL : Rows.linesThereUptoCard.stood.looks = Tryz.pinned.checked.prog.looks [] := by kernel_rfl
theorem cardG : false = Rows.linesThereUptoRow.goesBy Tryz.pinned.checked.prog := by kernel_rfl
end Go.Proofs.YtngecegnlhmnlaaGreatDoor.linesThereUpto
