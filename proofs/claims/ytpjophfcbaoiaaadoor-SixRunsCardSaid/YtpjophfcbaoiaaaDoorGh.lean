/- Hexadecimal by strconv.FormatUint. -/
import Derived.Test.YtpjophfcbaoiaaaDoorGg
namespace Go.Proofs.YtpjophfcbaoiaaaDoor.Si
open Go Go.RowKit Go.Vc Go.Proofs.YtpjophfcbaoiaaaDoor Go.Proofs.YtpjophfcbaoiaaaDoor.Fs Go.Proofs.YtpjophfcbaoiaaaDoor.Fo

theorem tz64_gives {W : World} (h : V6 W) : Gives Tryd.prog 101 #[.int .u64 16] W fun v W' => v = .int .i64 4 ∧ Below W.heap.size W W' := F101_fn (by
  unfold F101
  refine If.neg rfl ⟨by decide, ?_⟩
  have e : (Int.fdiv (IntKind.u64.wrap ((IntKind.u64.wrap ((((BitVec.ofInt (IntKind.u64).bits 16) &&& (BitVec.ofInt (IntKind.u64).bits (IntKind.u64.wrap (0 - 16)))).toNat : Int))) * 285870213051353865)) (2 ^ (min (Int.toNat 58) (IntKind.u64).bits))) = 15 := by kernel_rfl
  rw [e]
  exact ⟨by decide, by decide, _, h.tab, AsI.mk ⟨rfl, Below.refl _ _⟩⟩)
theorem tz_gives {W : World} (h : V6 W) : Gives Tryd.prog 93 #[.int .u64 16] W fun v W' => v = .int .i64 4 ∧ Below W.heap.size W W' := F93_fn (by
  unfold F93
  have hS := Ow.start NoS W
  exact hS.callv (tz64_gives h) fun W1 hS => AsI.mk ⟨rfl, hS.bel⟩)
end Go.Proofs.YtpjophfcbaoiaaaDoor.Si
