/- A fact of CacheOrder's row, by itself (it takes much memory). -/
import Derived.Test.YtdfaocbpghjboaaRows
import Derived.WalkKit
import Derived.ProofKit
import Derived.OpenShut
import Derived.ShutString
import Derived.ChangeOld
import Derived.Below
import Derived.SizedLaws
import Derived.Carry
namespace Go.Proofs.Ytdfaocbpghjboaa.cacheOrder
theorem closed : joinedFacts Try.pinned.checked.prog 6 Try.f6 Rows.cacheOrderSpec Rows.cacheOrderRow = true := of_decide_eq_true (by kernel_rfl)
end Go.Proofs.Ytdfaocbpghjboaa.cacheOrder
