/- The desk's run: the sum's table. Printed by tabgen.py. -/
import Derived.Test.YtmhmlneobbgadaaGreatDoorDt
set_option maxRecDepth 100000
namespace Go.Proofs.YtmhmlneobbgadaaGreatDoor.Ev
open Go Go.RowKit Go.Vc Go.Xv
noncomputable def crcStep (r : Nat) : Nat := match Nat.beq (r % 2) 1 with | true => Nat.xor (r / 2) 3988292384 | false => r / 2
noncomputable def crcTab : List C1 := (List.range 256).map fun i => .k (.int .u32 (crcStep (crcStep (crcStep (crcStep (crcStep (crcStep (crcStep (crcStep i)))))))))
theorem crc_ok : Kn Tryz.prog g0 69 [] (.p (.g crcTab)) := kn_run (runD_ok orc2_ok 40) (by kernel_rfl) (by kernel_rfl)
end Go.Proofs.YtmhmlneobbgadaaGreatDoor.Ev
