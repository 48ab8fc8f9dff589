/- The closed facts of LinesTwo's card, one by one. -/
import Derived.Test.YtngecegnlhmnlaaGreatDoorRows
import Derived.Test.YtngecegnlhmnlaaGreatDoorCards
import Derived.Test.YtngecegnlhmnlaaGreatDoorProg
import Derived.SevenTiedAt
namespace Go.Proofs.YtngecegnlhmnlaaGreatDoor.linesTwo
open Go
theorem cardW : Rows.linesTwoRow.wfByText (OpenSpec.ofChange Rows.linesTwoSpec) = true := by kernel_rfl
theorem cardM : Tryz.pinned.checked.prog.mainIs = some (Rows.linesTwoCard.stood.harness.1, Rows.linesTwoCard.stood.harness.2.toList) := by kernel_rfl
theorem cardL : Rows.linesTwoCard.stood.looks = Tryz.pinned.checked.prog.looks [] := by kernel_rfl
theorem cardG : false = Rows.linesTwoRow.goesBy Tryz.pinned.checked.prog := by kernel_rfl
end Go.Proofs.YtngecegnlhmnlaaGreatDoor.linesTwo
