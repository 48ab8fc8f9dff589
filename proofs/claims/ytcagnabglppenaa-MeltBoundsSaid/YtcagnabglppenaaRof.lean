/- A fact of MeltBounds's row, by itself (it takes much memory). -/
import Derived.Test.YtcagnabglppenaaRows
import Derived.WalkKit
import Derived.ProofKit
import Derived.OpenShut
import Derived.ShutString
import Derived.ChangeOld
import Derived.Below
import Derived.SizedLaws
import Derived.Carry
namespace Go.Proofs.Ytcagnabglppenaa.meltBounds
theorem closed : joinedFacts Try.pinned.checked.prog 18 Try.f18 Rows.meltBoundsSpec Rows.meltBoundsRow = true := of_decide_eq_true (by kernel_rfl)
end Go.Proofs.Ytcagnabglppenaa.meltBounds
