/- What the row of DeskHex asks of a start: its closed facts, one by one. -/
import Derived.Test.YtmhmlneobbgadaaGreatDoorRows
import Derived.Deep.DeepHandedRow
import Derived.LaidMore
import Derived.Lay
import Derived.JoinedCond
namespace Go.Proofs.YtmhmlneobbgadaaGreatDoor.deskHexUpto
open Go.ChangeShapes Go.WideShapes Go.ChangeAt
theorem l_fits (os : Os) : World.layFits Tryz.checked.prog (World.holding Tryz.checked.prog os ⟨#[], #[], []⟩) Rows.deskHexRow.laid [] = true := by kernel_rfl
theorem l_ifaces (os : Os) : World.layIfaces Tryz.checked.prog (World.holding Tryz.checked.prog os ⟨#[], #[], []⟩) Rows.deskHexRow.laid (World.laidAll Tryz.checked.prog os Rows.deskHexRow.laid) = true := by kernel_rfl
theorem l_r22 : Tryz.prog.readableRec 22 = true := by kernel_rfl
theorem l_r9 : Tryz.prog.readableRec 9 = true := by kernel_rfl
end Go.Proofs.YtmhmlneobbgadaaGreatDoor.deskHexUpto
