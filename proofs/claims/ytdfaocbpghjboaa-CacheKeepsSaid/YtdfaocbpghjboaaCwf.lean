/- A fact of CacheKeeps's row, by itself (it takes much memory). -/
import Derived.Test.YtdfaocbpghjboaaRows
import Derived.WalkKit
import Derived.ProofKit
import Derived.OpenShut
import Derived.ShutString
import Derived.ChangeOld
import Derived.Below
import Derived.SizedLaws
import Derived.Carry
namespace Go.Proofs.Ytdfaocbpghjboaa.cacheKeeps
theorem closed : joinedFacts Try.pinned.checked.prog 4 Try.f4 Rows.cacheKeepsSpec Rows.cacheKeepsRow = true := of_decide_eq_true (by kernel_rfl)
end Go.Proofs.Ytdfaocbpghjboaa.cacheKeeps
