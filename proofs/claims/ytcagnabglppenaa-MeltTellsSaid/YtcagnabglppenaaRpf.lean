/- A fact of MeltTells's row, by itself (it takes much memory). -/
import Derived.Test.YtcagnabglppenaaRows
import Derived.WalkKit
import Derived.ProofKit
import Derived.OpenShut
import Derived.ShutString
import Derived.ChangeOld
import Derived.Below
import Derived.SizedLaws
import Derived.Carry
namespace Go.Proofs.Ytcagnabglppenaa.meltTells
theorem closed : joinedFacts Try.pinned.checked.prog 7 Try.f7 Rows.meltTellsSpec Rows.meltTellsRow = true := of_decide_eq_true (by kernel_rfl)
end Go.Proofs.Ytcagnabglppenaa.meltTells
