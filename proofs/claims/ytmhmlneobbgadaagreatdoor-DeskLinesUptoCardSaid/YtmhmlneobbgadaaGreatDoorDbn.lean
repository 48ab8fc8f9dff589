/- What the rows of DeskLines and DeskBack ask of the program and of a start. -/
import Derived.Test.YtmhmlneobbgadaaGreatDoorDr
import Derived.Test.YtmhmlneobbgadaaGreatDoorDx
import Derived.Test.YtmhmlneobbgadaaGreatDoorDl
import Derived.Test.YtmhmlneobbgadaaGreatDoorLk
import Derived.Test.YtmhmlneobbgadaaGreatDoorRows
import Derived.WalkKit
import Derived.ProofKit
import Derived.OpenShut
import Derived.ShutString
import Derived.ChangeOld
import Derived.Below
import Derived.SizedLaws
import Derived.Carry
import Derived.Handed
import Derived.LaidMore
import Derived.Lay
import Derived.Shelf.Vars
namespace Go.Proofs.YtmhmlneobbgadaaGreatDoor.Fo
open Go Go.RowKit Go.Vc
theorem own : ownKnob Tryz.prog.godebug = none := by kernel_rfl
theorem laidOut : laidOutB Tryz.prog = true := Ev.laidD
theorem vr_of {W : World} (hs : W.ShapedOpen Tryz.prog) : Cd.Vr W :=
  ⟨cell_of_shapedOpen_int (P := Tryz.prog) (g := 0) (t := 3) (zero := #[.int .i64 0]) hs (of_decide_eq_true (by kernel_rfl)) (by kernel_rfl) rfl (by kernel_rfl) (by kernel_rfl) Tryz.underlying3⟩
end Go.Proofs.YtmhmlneobbgadaaGreatDoor.Fo
