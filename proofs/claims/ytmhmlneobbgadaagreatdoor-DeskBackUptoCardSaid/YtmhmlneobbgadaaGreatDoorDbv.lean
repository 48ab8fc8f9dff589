/- What the row of DeskBack asks of a start: its closed facts, one by one. -/
import Derived.Test.YtmhmlneobbgadaaGreatDoorRows
import Derived.Deep.DeepHandedRow
import Derived.LaidMore
import Derived.Lay
import Derived.JoinedCond
namespace Go.Proofs.YtmhmlneobbgadaaGreatDoor.deskBackUpto
open Go.ChangeShapes Go.WideShapes Go.ChangeAt
theorem l_read (os : Os) (H : Type) (enc : TypeId × Value → H) : ∃ places, DataW.whole enc Tryz.prog ((World.laidAll Tryz.prog os Rows.deskBackRow.laid).forCall (fun _ _ => 0) ⟨#[], #[.agg #[.int .i64 0, .int .i64 0, .int .i64 0, .int .i64 0, .slice none 0 0, .string ByteArray.empty], .string ByteArray.empty], []⟩).memory Tryz.f5.params.toList Rows.deskBackSpec.vars false (#[.agg #[.int .i64 0, .int .i64 0, .int .i64 0, .int .i64 0, .slice none 0 0, .string ByteArray.empty], .string ByteArray.empty] : Array Value).toList 8 = some ([.agg [.lit (.int .i64 0), .lit (.int .i64 0), .lit (.int .i64 0), .lit (.int .i64 0), .nil, .lit (.string [])], .lit (.string [])], [], places) := ⟨[], by kernel_rfl⟩
theorem l_sized (os : Os) (H : Type) (enc : TypeId × Value → H) : ChangeSpec.sizedB enc Tryz.checked.prog Tryz.f5 (Rows.OpenSpec.upto Rows.deskBackSpec).bare false ((World.laidAll Tryz.prog os Rows.deskBackRow.laid).forCall (fun _ _ => 0) ⟨#[], #[.agg #[.int .i64 0, .int .i64 0, .int .i64 0, .int .i64 0, .slice none 0 0, .string ByteArray.empty], .string ByteArray.empty], []⟩).memory #[.agg #[.int .i64 0, .int .i64 0, .int .i64 0, .int .i64 0, .slice none 0 0, .string ByteArray.empty], .string ByteArray.empty] 8 = true := by kernel_rfl
theorem l_n3 : Tryz.prog.funcNamed "cribble/cribblelaw38.DeskBack" = some 5 := by kernel_rfl
end Go.Proofs.YtmhmlneobbgadaaGreatDoor.deskBackUpto
