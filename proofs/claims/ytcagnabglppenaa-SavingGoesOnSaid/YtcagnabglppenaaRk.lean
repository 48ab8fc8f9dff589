/- A fact of SavingGoesOn's row, by itself (it takes much memory). -/
import Derived.Test.YtcagnabglppenaaRows
import Derived.WalkKit
import Derived.ProofKit
import Derived.OpenShut
import Derived.ShutString
import Derived.ChangeOld
import Derived.Below
import Derived.SizedLaws
import Derived.Carry
namespace Go.Proofs.Ytcagnabglppenaa.savingGoesOn
theorem closed : joinedFacts Try.pinned.checked.prog 12 Try.f12 Rows.savingGoesOnSpec Rows.savingGoesOnRow = true := of_decide_eq_true (by kernel_rfl)
end Go.Proofs.Ytcagnabglppenaa.savingGoesOn
