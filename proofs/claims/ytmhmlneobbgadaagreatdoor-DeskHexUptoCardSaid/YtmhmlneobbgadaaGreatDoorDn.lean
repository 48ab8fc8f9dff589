/- What the rows ask of the program; a byte as an argument's item. -/
import Derived.Test.YtmhmlneobbgadaaGreatDoorDm
import Derived.Test.YtmhmlneobbgadaaGreatDoorLk
import Derived.Test.YtmhmlneobbgadaaGreatDoorRows
import Derived.WalkKit
import Derived.ProofKit
import Derived.OpenShut
import Derived.ShutString
import Derived.ChangeOld
import Derived.Below
import Derived.SizedLaws
import Derived.Carry
import Derived.Handed
import Derived.LaidMore
import Derived.Lay
namespace Go.Proofs.YtmhmlneobbgadaaGreatDoor.Fo
open Go Go.RowKit Go.Vc
abbrev laid : List (String × DataW Unit) := Rows.deskHexRow.laid
theorem own : ownKnob Tryz.prog.godebug = none := by kernel_rfl
theorem laidOut : laidOutB Tryz.prog = true := Ev.laidD
theorem none_asked {W : World} (_ : W.ShapedOpen Tryz.prog) (_ : laidMetH Tryz.prog laid W) : True := trivial
end Go.Proofs.YtmhmlneobbgadaaGreatDoor.Fo
namespace Go.Proofs.YtmhmlneobbgadaaGreatDoor.Dk
open Go Go.RowKit Go.Vc
theorem dec_byte : ∀ cs : List Value, Typed [.int .u8] cs → (∀ b, Value.string b ∈ cs → b.size ≤ 1048576) → ∃ y : UInt8, cs = enC y ∧ True
  | [v], ⟨⟨n, hv, hw⟩, _⟩, _ => by
    have h := wf_u8.1 hw
    refine ⟨UInt8.ofNat n.toNat, ?_, trivial⟩
    subst hv
    unfold enC
    have : (UInt8.ofNat n.toNat).toNat = n.toNat := by rw [UInt8.toNat_ofNat']; omega
    rw [this]
    congr 2
    omega
  | [], h, _ => h.elim
  | _ :: _ :: _, h, _ => h.2.elim
end Go.Proofs.YtmhmlneobbgadaaGreatDoor.Dk
