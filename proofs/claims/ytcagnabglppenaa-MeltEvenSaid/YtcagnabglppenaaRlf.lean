/- A fact of MeltEven's row, by itself (it takes much memory). -/
import Derived.Test.YtcagnabglppenaaRows
import Derived.WalkKit
import Derived.ProofKit
import Derived.OpenShut
import Derived.ShutString
import Derived.ChangeOld
import Derived.Below
import Derived.SizedLaws
import Derived.Carry
namespace Go.Proofs.Ytcagnabglppenaa.meltEven
theorem closed : joinedFacts Try.pinned.checked.prog 9 Try.f9 Rows.meltEvenSpec Rows.meltEvenRow = true := of_decide_eq_true (by kernel_rfl)
end Go.Proofs.Ytcagnabglppenaa.meltEven
