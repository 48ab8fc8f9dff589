/- A fact of MeltFolds's row, by itself (it takes much memory). -/
import Derived.Test.YtcagnabglppenaaRows
import Derived.WalkKit
import Derived.ProofKit
import Derived.OpenShut
import Derived.ShutString
import Derived.ChangeOld
import Derived.Below
import Derived.SizedLaws
import Derived.Carry
namespace Go.Proofs.Ytcagnabglppenaa.meltFolds
theorem closed : joinedFacts Try.pinned.checked.prog 8 Try.f8 Rows.meltFoldsSpec Rows.meltFoldsRow = true := of_decide_eq_true (by kernel_rfl)
end Go.Proofs.Ytcagnabglppenaa.meltFolds
