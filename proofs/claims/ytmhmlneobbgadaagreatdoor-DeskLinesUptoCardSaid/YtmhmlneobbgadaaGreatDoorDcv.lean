/- What the row of DeskLines asks of a start: its closed facts, one by one. -/
import Derived.Test.YtmhmlneobbgadaaGreatDoorRows
import Derived.Deep.DeepHandedRow
import Derived.LaidMore
import Derived.Lay
import Derived.JoinedCond
namespace Go.Proofs.YtmhmlneobbgadaaGreatDoor.deskLinesUpto
open Go.ChangeShapes Go.WideShapes Go.ChangeAt
theorem l_read (os : Os) (H : Type) (enc : TypeId × Value → H) : ∃ places, DataW.whole enc Tryz.prog ((World.laidAll Tryz.prog os Rows.deskLinesRow.laid).forCall (fun _ _ => 0) ⟨#[], #[.string ByteArray.empty, .agg #[.int .i64 0, .int .i64 0, .int .i64 0, .int .i64 0, .slice none 0 0, .string ByteArray.empty], .slice none 0 0, .string ByteArray.empty], []⟩).memory Tryz.f4.params.toList Rows.deskLinesSpec.vars false (#[.string ByteArray.empty, .agg #[.int .i64 0, .int .i64 0, .int .i64 0, .int .i64 0, .slice none 0 0, .string ByteArray.empty], .slice none 0 0, .string ByteArray.empty] : Array Value).toList 8 = some ([.lit (.string []), .agg [.lit (.int .i64 0), .lit (.int .i64 0), .lit (.int .i64 0), .lit (.int .i64 0), .nil, .lit (.string [])], .nil, .lit (.string [])], [], places) := ⟨[], by kernel_rfl⟩
theorem l_sized (os : Os) (H : Type) (enc : TypeId × Value → H) : ChangeSpec.sizedB enc Tryz.checked.prog Tryz.f4 (Rows.OpenSpec.upto Rows.deskLinesSpec).bare false ((World.laidAll Tryz.prog os Rows.deskLinesRow.laid).forCall (fun _ _ => 0) ⟨#[], #[.string ByteArray.empty, .agg #[.int .i64 0, .int .i64 0, .int .i64 0, .int .i64 0, .slice none 0 0, .string ByteArray.empty], .slice none 0 0, .string ByteArray.empty], []⟩).memory #[.string ByteArray.empty, .agg #[.int .i64 0, .int .i64 0, .int .i64 0, .int .i64 0, .slice none 0 0, .string ByteArray.empty], .slice none 0 0, .string ByteArray.empty] 8 = true := by kernel_rfl
theorem l_n3 : Tryz.prog.funcNamed "cribble/cribblelaw38.DeskLines" = some 4 := by kernel_rfl
end Go.Proofs.YtmhmlneobbgadaaGreatDoor.deskLinesUpto
