/- The closed facts of LinesTwoUpto's card, one by one. -/
import Derived.Test.YtngecegnlhmnlaaGreatDoorRows
import Derived.Test.YtngecegnlhmnlaaGreatDoorCards
import Derived.Test.YtngecegnlhmnlaaGreatDoorProg
import Derived.SevenTiedAt
namespace Go.Proofs.YtngecegnlhmnlaaGreatDoor.linesTwoUpto
open Go
theorem cardW : Rows.linesTwoUptoRow.wfByText (Rows.OpenSpec.upto Rows.linesTwoSpec) = true := by kernel_rfl
theorem cardM : Tryz.pinned.checked.prog.mainIs = some (Rows.linesTwoUptoCard.stood.harness.1, Rows.linesTwoUptoCard.stood.harness.2.toList) := by kernel_rfl
theorem cardL : Rows.linesTwoUptoCard.stood.looks = Tryz.pinned.checked.prog.looks [] := by kernel_rfl
theorem cardG : false = Rows.linesTwoUptoRow.goesBy Tryz.pinned.checked.prog := by kernel_rfl
end Go.Proofs.YtngecegnlhmnlaaGreatDoor.linesTwoUpto
