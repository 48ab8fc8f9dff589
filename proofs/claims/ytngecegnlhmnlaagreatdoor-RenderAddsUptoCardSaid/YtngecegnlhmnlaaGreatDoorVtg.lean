/- The closed facts of RenderAddsUpto's card, one by one. -/
import Derived.Test.YtngecegnlhmnlaaGreatDoorRows
import Derived.Test.YtngecegnlhmnlaaGreatDoorCards
import Derived.Test.YtngecegnlhmnlaaGreatDoorProg
import Derived.SevenTiedAt
namespace Go.Proofs.YtngecegnlhmnlaaGreatDoor.renderAddsUpto
open Go
theorem cardW : Rows.renderAddsUptoRow.wfByText (Rows.OpenSpec.upto Rows.renderAddsSpec) = true := by kernel_rfl
theorem cardM : Tryz.pinned.checked.prog.mainIs = some (Rows.renderAddsUptoCard.stood.harness.1, Rows.renderAddsUptoCard.stood.harness.2.toList) := by kernel_rfl
theorem cardL : Rows.renderAddsUptoCard.stood.looks = Tryz.pinned.checked.prog.looks [] := by kernel_rfl
theorem cardG : false = Rows.renderAddsUptoRow.goesBy Tryz.pinned.checked.prog := by kernel_rfl
end Go.Proofs.YtngecegnlhmnlaaGreatDoor.renderAddsUpto
