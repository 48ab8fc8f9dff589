/- What the row of DeskHex asks of a start: its closed facts, one by one. -/
import Derived.Test.YtmhmlneobbgadaaGreatDoorRows
import Derived.Deep.DeepHandedRow
import Derived.LaidMore
import Derived.Lay
import Derived.JoinedCond
namespace Go.Proofs.YtmhmlneobbgadaaGreatDoor.deskHexUpto
open Go.ChangeShapes Go.WideShapes Go.ChangeAt
theorem l_read (os : Os) (H : Type) (enc : TypeId × Value → H) : ∃ places, DataW.whole enc Tryz.prog ((World.laidAll Tryz.prog os Rows.deskHexRow.laid).forCall (fun _ _ => 0) ⟨#[], #[.slice none 0 0, .string ByteArray.empty], []⟩).memory Tryz.f3.params.toList Rows.deskHexSpec.vars false (#[.slice none 0 0, .string ByteArray.empty] : Array Value).toList 8 = some ([.nil, .lit (.string [])], [], places) := ⟨[], by kernel_rfl⟩
theorem l_sized (os : Os) (H : Type) (enc : TypeId × Value → H) : ChangeSpec.sizedB enc Tryz.checked.prog Tryz.f3 (Rows.OpenSpec.upto Rows.deskHexSpec).bare false ((World.laidAll Tryz.prog os Rows.deskHexRow.laid).forCall (fun _ _ => 0) ⟨#[], #[.slice none 0 0, .string ByteArray.empty], []⟩).memory #[.slice none 0 0, .string ByteArray.empty] 8 = true := by kernel_rfl
theorem l_n3 : Tryz.prog.funcNamed "cribble/cribblelaw38.DeskHex" = some 3 := by kernel_rfl
end Go.Proofs.YtmhmlneobbgadaaGreatDoor.deskHexUpto
