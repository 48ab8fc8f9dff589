/- What the row of DeskLines asks of a start: its closed facts, one by one. -/
import Derived.Test.YtmhmlneobbgadaaGreatDoorRows
import Derived.Deep.DeepHandedRow
import Derived.LaidMore
import Derived.Lay
import Derived.JoinedCond
namespace Go.Proofs.YtmhmlneobbgadaaGreatDoor.deskLinesUpto
open Go.ChangeShapes Go.WideShapes Go.ChangeAt
theorem l_fits (os : Os) : World.layFits Tryz.checked.prog (World.holding Tryz.checked.prog os ⟨#[], #[], []⟩) Rows.deskLinesRow.laid [] = true := by kernel_rfl
theorem l_ifaces (os : Os) : World.layIfaces Tryz.checked.prog (World.holding Tryz.checked.prog os ⟨#[], #[], []⟩) Rows.deskLinesRow.laid (World.laidAll Tryz.checked.prog os Rows.deskLinesRow.laid) = true := by kernel_rfl
theorem l_r_bytes : Tryz.prog.readableRec 22 = true := by kernel_rfl
theorem l_r_cmd : Tryz.prog.readableRec 30 = true := by kernel_rfl
theorem l_r_str : Tryz.prog.readableRec 9 = true := by kernel_rfl
end Go.Proofs.YtmhmlneobbgadaaGreatDoor.deskLinesUpto
