/- Addresses of 128 bits: Of, As, Or; as calls. -/
import Derived.Test.YtpjophfcbaoiaaaDoorGa
import Derived.Test.YtpjophfcbaoiaaaDoorGb
import Derived.Test.YtpjophfcbaoiaaaDoorFf
namespace Go.Proofs.YtpjophfcbaoiaaaDoor.Si
open Go Go.RowKit Go.Vc Go.Proofs.YtpjophfcbaoiaaaDoor.Fs Go.Proofs.YtpjophfcbaoiaaaDoor.Fo

/-- The two halves. -/
def enW (x : Nat × Nat) : List Value := [.int .u64 (x.1 : Int), .int .u64 (x.2 : Int)]
/-- Groups. -/
def enG (l : List Nat) : List Value := l.map fun n : Nat => Value.int .u16 (n : Int)
theorem w16 (a : Nat) : IntKind.u16.wrap (a : Int) = ((a % 65536 : Nat) : Int) := by
  have : IntKind.u16.wrap (a : Int) = (a : Int) % 65536 := rfl
  rw [this]; omega
theorem w64 (a : Nat) : IntKind.u64.wrap (a : Int) = ((a % 18446744073709551616 : Nat) : Int) := by
  have : IntKind.u64.wrap (a : Int) = (a : Int) % 18446744073709551616 := rfl
  rw [this]; omega
theorem wOf_gives (x : Nat) (W : World) : Gives Tryd.prog 39 #[.int .u64 (x : Int)] W fun v W' => v = .agg (enW (0, x)).toArray ∧ Below W.heap.size W W' := F39_fn (by
  unfold F39
  have hS := Ow.start NoS W
  refine hS.new fun b2 W1 hS => BldC.mk (cs := enW (0, x)) ⟨rfl, by decide, trivial⟩ rfl (hS.stw 0 rfl (cs := enW (0, x)) rfl rfl rfl fun W2 hS => hS.ldw 0 rfl (show (enW (0, x)).length = 2 from rfl) ⟨rfl, hS.bel⟩))
theorem as_gives (x : Nat × Nat) (W : World) : Gives Tryd.prog 24 #[.agg (enW x).toArray] W fun v W' => v = .agg (enW x).toArray ∧ Below W.heap.size W W' := F24_fn (by
  unfold F24
  have hS := Ow.start NoS W
  refine hS.new fun b1 W1 hS => hS.new fun b2 W2 hS => ?_
  refine hS.ld 1 rfl rfl (AsI.mk ?_)
  refine hS.ldA 1 rfl rfl (AsI.mk ?_)
  exact BldC.mk (cs := enW x) ⟨rfl, by decide, rfl, by decide, trivial⟩ rfl (hS.stw 0 rfl (cs := enW x) rfl rfl rfl fun W3 hS => hS.ldw 0 rfl (show (enW x).length = 2 from rfl) ⟨rfl, hS.bel⟩))
theorem or0 (a b : Nat) (ha : a < 18446744073709551616) (hb : b < 18446744073709551616) : IntKind.u64.wrap ((((BitVec.ofInt (IntKind.u64).bits (a : Int)) ||| (BitVec.ofInt (IntKind.u64).bits (b : Int))).toNat : Int)) = ((a ||| b : Nat) : Int) := by
  have e2 : ∀ n : Nat, n < 18446744073709551616 → (BitVec.ofInt (IntKind.u64).bits (n : Int)).toNat = n := fun n h => by
    have b : (IntKind.u64).bits = 64 := rfl
    rw [b, BitVec.toNat_ofInt]
    omega
  rw [BitVec.toNat_or, e2 a ha, e2 b hb, w64]
  have : a ||| b < 2 ^ 64 := Nat.or_lt_two_pow (by omega) (by omega)
  rw [Nat.mod_eq_of_lt (by omega)]
theorem wOr_gives {x y : Nat × Nat} (h1 : x.1 < 18446744073709551616) (h2 : x.2 < 18446744073709551616) (h3 : y.1 < 18446744073709551616) (h4 : y.2 < 18446744073709551616) (W : World) :
    Gives Tryd.prog 40 #[.agg (enW x).toArray, .agg (enW y).toArray] W fun v W' => v = .agg (enW (x.1 ||| y.1, x.2 ||| y.2)).toArray ∧ Below W.heap.size W W' := F40_fn (by
  unfold F40
  have hS := Ow.start NoS W
  refine hS.new fun b1 W1 hS => hS.new fun b2 W2 hS => hS.new fun b3 W3 hS => ?_
  refine hS.ld 2 rfl rfl (AsI.mk ?_)
  refine hS.ld 1 rfl rfl (AsI.mk ?_)
  refine hS.ldA 2 rfl rfl (AsI.mk ?_)
  refine hS.ldA 1 rfl rfl (AsI.mk ?_)
  rw [or0 _ _ h1 h3, or0 _ _ h2 h4]
  exact BldC.mk (cs := enW (x.1 ||| y.1, x.2 ||| y.2)) ⟨rfl, by decide, rfl, by decide, trivial⟩ rfl (hS.stw 0 rfl (cs := enW (x.1 ||| y.1, x.2 ||| y.2)) rfl rfl rfl fun W4 hS => hS.ldw 0 rfl (show (enW (x.1 ||| y.1, x.2 ||| y.2)).length = 2 from rfl) ⟨rfl, hS.bel⟩))
theorem left16_gives (x : Nat × Nat) (h2 : x.2 < 18446744073709551616) (W : World) :
    Gives Tryd.prog 41 #[.agg (enW x).toArray, .int .i64 16] W fun v W' => v = .agg (enW (x.1 * 65536 % 18446744073709551616 ||| x.2 / 281474976710656, x.2 * 65536 % 18446744073709551616)).toArray ∧ Below W.heap.size W W' := F41_fn (by
  unfold F41
  have hS := Ow.start NoS W
  have p16 : (2 ^ (min (Int.toNat 16) (IntKind.u64).bits) : Int) = ((65536 : Nat) : Int) := by decide
  have p48 : (2 ^ (min (Int.toNat (IntKind.i64.wrap (64 - 16))) (IntKind.u64).bits) : Int) = ((281474976710656 : Nat) : Int) := by kernel_rfl
  have e1 : IntKind.u64.wrap ((x.1 : Int) * 2 ^ (min (Int.toNat 16) (IntKind.u64).bits)) = ((x.1 * 65536 % 18446744073709551616 : Nat) : Int) := by
    rw [p16, ← Int.natCast_mul, w64]
  have e3 : IntKind.u64.wrap ((x.2 : Int) * 2 ^ (min (Int.toNat 16) (IntKind.u64).bits)) = ((x.2 * 65536 % 18446744073709551616 : Nat) : Int) := by
    rw [p16, ← Int.natCast_mul, w64]
  have e2 : Int.fdiv (x.2 : Int) (2 ^ (min (Int.toNat (IntKind.i64.wrap (64 - 16))) (IntKind.u64).bits)) = ((x.2 / 281474976710656 : Nat) : Int) := by
    rw [p48, fd _ _ (by decide)]
  refine hS.new fun b1 W1 hS => hS.new fun b2 W2 hS => If.neg rfl (If.neg rfl (If.neg rfl ?_))
  refine hS.ld 1 rfl rfl (AsI.mk ⟨by decide, ?_⟩)
  refine hS.ldA 1 rfl rfl (AsI.mk ⟨by decide, ?_⟩)
  refine hS.ldA 1 rfl rfl (AsI.mk (hS.any fun W3 hS => ⟨by decide, ?_⟩))
  rw [e1, e2, e3, or0 _ _ (Nat.mod_lt _ (by decide)) (by omega)]
  exact BldC.mk (cs := enW (x.1 * 65536 % 18446744073709551616 ||| x.2 / 281474976710656, x.2 * 65536 % 18446744073709551616)) ⟨rfl, by decide, rfl, by decide, trivial⟩ rfl (hS.stw 0 rfl (cs := enW (x.1 * 65536 % 18446744073709551616 ||| x.2 / 281474976710656, x.2 * 65536 % 18446744073709551616)) rfl rfl rfl fun W4 hS => hS.ldw 0 rfl rfl ⟨rfl, hS.bel⟩))
theorem pow2_gives (W : World) : Gives Tryd.prog 92 #[.int .i64 16] W fun v W' => v = .bool true ∧ W' = W := F92_fn (by
  unfold F92
  exact ⟨by kernel_rfl, rfl⟩)
end Go.Proofs.YtpjophfcbaoiaaaDoor.Si
