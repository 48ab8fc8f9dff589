/- A fact of CacheApart's row, by itself (it takes much memory). -/
import Derived.Test.YtdfaocbpghjboaaRows
import Derived.WalkKit
import Derived.ProofKit
import Derived.OpenShut
import Derived.ShutString
import Derived.ChangeOld
import Derived.Below
import Derived.SizedLaws
import Derived.Carry
namespace Go.Proofs.Ytdfaocbpghjboaa.cacheApart
theorem closed : joinedFacts Try.pinned.checked.prog 5 Try.f5 Rows.cacheApartSpec Rows.cacheApartRow = true := of_decide_eq_true (by kernel_rfl)
end Go.Proofs.Ytdfaocbpghjboaa.cacheApart
