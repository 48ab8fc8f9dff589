/- What the row of DeskLines asks of a start: its closed facts, one by one. -/
import Derived.Test.YtmhmlneobbgadaaGreatDoorRows
import Derived.Deep.DeepHandedRow
import Derived.LaidMore
import Derived.Lay
import Derived.JoinedCond
namespace Go.Proofs.YtmhmlneobbgadaaGreatDoor.deskLinesUpto
open Go.ChangeShapes Go.WideShapes Go.ChangeAt
theorem l_no : Tryz.checked.prog.inits.idxOf? 4 = none := by kernel_rfl
theorem l_vars (os : Os) : ((World.laidAll Tryz.prog os Rows.deskLinesRow.laid).forCall (fun _ _ => 0) ⟨#[], #[.string ByteArray.empty, .agg #[.int .i64 0, .int .i64 0, .int .i64 0, .int .i64 0, .slice none 0 0, .string ByteArray.empty], .slice none 0 0, .string ByteArray.empty], []⟩).variablesB Tryz.checked.prog = true := by kernel_rfl
theorem l_heap (os : Os) : (((World.laidAll Tryz.prog os Rows.deskLinesRow.laid).forCall (fun _ _ => 0) ⟨#[], #[.string ByteArray.empty, .agg #[.int .i64 0, .int .i64 0, .int .i64 0, .int .i64 0, .slice none 0 0, .string ByteArray.empty], .slice none 0 0, .string ByteArray.empty], []⟩).heap.toList.drop Tryz.checked.prog.globals.size).take ((begin Tryz.checked.prog (fun _ _ => 0) default).world.heap.size - Tryz.checked.prog.globals.size) = (begin Tryz.checked.prog (fun _ _ => 0) default).world.heap.toList.drop Tryz.checked.prog.globals.size := by kernel_rfl
theorem l_ok (os : Os) : Input.okWideB Tryz.checked.prog ((World.laidAll Tryz.prog os Rows.deskLinesRow.laid).forCall (fun _ _ => 0) ⟨#[], #[.string ByteArray.empty, .agg #[.int .i64 0, .int .i64 0, .int .i64 0, .int .i64 0, .slice none 0 0, .string ByteArray.empty], .slice none 0 0, .string ByteArray.empty], []⟩) 4 ⟨#[], #[.string ByteArray.empty, .agg #[.int .i64 0, .int .i64 0, .int .i64 0, .int .i64 0, .slice none 0 0, .string ByteArray.empty], .slice none 0 0, .string ByteArray.empty], []⟩ = true := by kernel_rfl
end Go.Proofs.YtmhmlneobbgadaaGreatDoor.deskLinesUpto
