/- The closed facts of LinesAll's card, one by one. -/
import Derived.Test.YtngecegnlhmnlaaGreatDoorRows
import Derived.Test.YtngecegnlhmnlaaGreatDoorCards
import Derived.Test.YtngecegnlhmnlaaGreatDoorProg
import Derived.SevenTiedAt
namespace Go.Proofs.YtngecegnlhmnlaaGreatDoor.linesAll
open Go
theorem cardW : Rows.linesAllRow.wfByText (OpenSpec.ofChange Rows.linesAllSpec) = true := by kernel_rfl
theorem cardM : Tryz.pinned.checked.prog.mainIs = some (Rows.linesAllCard.stood.harness.1, Rows.linesAllCard.stood.harness.2.toList) := by kernel_rfl
theorem cardL : Rows.linesAllCard.stood.looks = Tryz.pinned.checked.prog.looks [] := by kernel_rfl
theorem cardG : false = Rows.linesAllRow.goesBy Tryz.pinned.checked.prog := by kernel_rfl
end Go.Proofs.YtngecegnlhmnlaaGreatDoor.linesAll
