/- Laws and walks on which this claim rests, part 3: merged from this claim's own texts by a program of its writer. -/
import Derived.Test.YtngecegnlhmnlaaGreatDoorZd2
import Derived.StillTail
import Derived.Below
import Derived.Scope
import Derived.KernelRfl
import Derived.Laws.Sem
import Derived.Laws.World
import Derived.CallsIn
import Derived.OrdersIn
import Derived.TacticsIn
import Derived.RangeFuncRecord
import Derived.Test.YtngecegnlhmnlaaGreatDoorProg
import Derived.Shelf.Strings.OnBuilder
import Derived.Shelf.LaysM
import Derived.Shelf.Strconv.Itoa3
import Derived.Shelf.LaysC
import Derived.Shelf.Strconv.AtoiAll
import Derived.Shelf.Strconv.ErrVarAll
import Derived.Shelf.Strings.Split
import Derived.Laws.AppendOwn
import Derived.Maps.AppendAt
import Derived.Deep.Slices
import Derived.OpenShut
import Derived.DeepKeys5
import Derived.Laws.StructEq
import Derived.Maps.RangeRun
import Derived.Laws.CopyRow
import Derived.Laws.OwnMore
import Derived.Lib.SplitLaws
import Derived.Lib.IndexLaws
import Derived.Test.YtngecegnlhmnlaaGreatDoorRows
import Derived.WalkKit
import Derived.ProofKit
import Derived.ShutString
import Derived.ChangeOld
import Derived.SizedLaws
import Derived.Carry
import Derived.Handed
import Derived.LaidMore
import Derived.Lay
import Derived.Stop.LaidErr
import Derived.Lib.LaidTab
import Derived.Shelf.Vars
import Derived.Stop.Joined
import Derived.Laws.IdiomStrings
import Derived.Shelf.Small.Strs
import Derived.Shelf.Strings.Cut
import Derived.Laws.Externs
import Derived.Lib.ItoaNum
set_option linter.unusedSimpArgs false
set_option linter.unusedVariables false
namespace Go.Proofs.YtngecegnlhmnlaaGreatDoor.Wi
def val (x : Nat × Nat) : Nat := x.1 * 18446744073709551616 + x.2
def hv (n : Nat) : Nat × Nat := (n / 18446744073709551616 % 18446744073709551616, n % 18446744073709551616)
theorem hv_val {x : Nat × Nat} (h1 : x.1 < 18446744073709551616) (h2 : x.2 < 18446744073709551616) : hv (val x) = x := by
  unfold hv val
  apply Prod.ext
  · show (x.1 * 18446744073709551616 + x.2) / 18446744073709551616 % 18446744073709551616 = x.1; omega
  · show (x.1 * 18446744073709551616 + x.2) % 18446744073709551616 = x.2; omega
theorem val_hv {n : Nat} (h : n < 340282366920938463463374607431768211456) : val (hv n) = n := by
  unfold hv val; dsimp only; omega
theorem hv_lt (n : Nat) : (hv n).1 < 18446744073709551616 ∧ (hv n).2 < 18446744073709551616 := ⟨Nat.mod_lt _ (by decide), Nat.mod_lt _ (by decide)⟩
theorem val_lt {x : Nat × Nat} (h1 : x.1 < 18446744073709551616) (h2 : x.2 < 18446744073709551616) : val x < 340282366920938463463374607431768211456 := by
  unfold val; omega
theorem p64 : (2 : Nat) ^ 64 = 18446744073709551616 := by decide
theorem pow_split {n : Nat} (h : n ≤ 64) : 2 ^ n * 2 ^ (64 - n) = 18446744073709551616 := by
  rw [← Nat.pow_add, show n + (64 - n) = 64 by omega, p64]
theorem or_add {n a b : Nat} (h : b < 2 ^ n) : a * 2 ^ n ||| b = a * 2 ^ n + b := by
  have e := Nat.shiftLeft_add_eq_or_of_lt h a
  rw [Nat.shiftLeft_eq] at e
  exact e.symm
theorem parts {hi P Q : Nat} (hp : 0 < P) (hq : 0 < Q) (hs : P * Q = 18446744073709551616) : hi * P = hi / Q * 18446744073709551616 + hi % Q * P ∧ hi % Q * P + P ≤ 18446744073709551616 ∧ hi * P % 18446744073709551616 = hi % Q * P := by
  have e : hi * P = hi / Q * 18446744073709551616 + hi % Q * P := by
    have h := Nat.div_add_mod hi Q
    have h2 : hi * P = (Q * (hi / Q) + hi % Q) * P := by rw [h]
    rw [h2, Nat.add_mul, ← hs, Nat.mul_comm Q, Nat.mul_assoc, Nat.mul_comm Q P]
  have b : hi % Q * P + P ≤ 18446744073709551616 := by
    have h := Nat.mul_le_mul_right P (Nat.mod_lt hi hq)
    rw [Nat.mul_comm Q P, hs, Nat.succ_mul] at h
    exact h
  exact ⟨e, b, by omega⟩
theorem left_lo (x : Nat × Nat) (h2 : x.2 < 18446744073709551616) {n : Nat} (hn : n < 64) :
    (x.1 * 2 ^ n % 18446744073709551616 ||| x.2 / 2 ^ (64 - n), x.2 * 2 ^ n % 18446744073709551616) = hv (val x * 2 ^ n) := by
  have hs := pow_split (Nat.le_of_lt hn)
  obtain ⟨hi, lo⟩ := x
  dsimp only at h2 ⊢
  have hp : 0 < 2 ^ n := Nat.two_pow_pos n
  have hq : 0 < 2 ^ (64 - n) := Nat.two_pow_pos _
  have hc : lo / 2 ^ (64 - n) < 2 ^ n := Nat.div_lt_of_lt_mul (by rw [Nat.mul_comm, hs]; exact h2)
  obtain ⟨h1, h3, h5⟩ := parts (hi := hi) hp hq hs
  obtain ⟨l1, l3, l5⟩ := parts (hi := lo) hp hq hs
  rw [h5, l5, or_add hc]
  unfold hv val
  dsimp only
  rw [Nat.add_mul, Nat.mul_right_comm, h1, l1]
  generalize hi % 2 ^ (64 - n) * 2 ^ n = B at *
  generalize lo % 2 ^ (64 - n) * 2 ^ n = D at *
  generalize hi / 2 ^ (64 - n) = A at *
  generalize lo / 2 ^ (64 - n) = C at *
  apply Prod.ext
  · dsimp only; omega
  · dsimp only; omega
theorem right_lo (x : Nat × Nat) (h1 : x.1 < 18446744073709551616) (h2 : x.2 < 18446744073709551616) {n : Nat} (hn : n < 64) :
    (x.1 / 2 ^ n, x.2 / 2 ^ n ||| x.1 * 2 ^ (64 - n) % 18446744073709551616) = hv (val x / 2 ^ n) := by
  have hs := pow_split (Nat.le_of_lt hn)
  obtain ⟨hi, lo⟩ := x
  dsimp only at h1 h2 ⊢
  have hp : 0 < 2 ^ n := Nat.two_pow_pos n
  have hq : 0 < 2 ^ (64 - n) := Nat.two_pow_pos _
  have hc : lo / 2 ^ n < 2 ^ (64 - n) := Nat.div_lt_of_lt_mul (by rw [hs]; exact h2)
  obtain ⟨g1, g3, g5⟩ := parts (hi := hi) hq hp (by rw [Nat.mul_comm]; exact hs)
  rw [g5, Nat.or_comm, or_add hc]
  unfold hv val
  dsimp only
  have e : (hi * 18446744073709551616 + lo) / 2 ^ n = hi / 2 ^ n * 18446744073709551616 + hi % 2 ^ n * 2 ^ (64 - n) + lo / 2 ^ n := by
    rw [← hs, show hi * (2 ^ n * 2 ^ (64 - n)) + lo = lo + 2 ^ n * (hi * 2 ^ (64 - n)) by rw [Nat.mul_left_comm, Nat.add_comm], Nat.add_mul_div_left _ _ hp, g1, hs]
    omega
  rw [e]
  have hA : hi / 2 ^ n < 18446744073709551616 := Nat.lt_of_le_of_lt (Nat.div_le_self _ _) h1
  generalize hi % 2 ^ n * 2 ^ (64 - n) = B at *
  generalize hi / 2 ^ n = A at *
  generalize lo / 2 ^ n = C at *
  generalize 2 ^ (64 - n) = Q at *
  apply Prod.ext
  · dsimp only; omega
  · dsimp only; omega
theorem mul_ac (a b M K : Nat) : (a * K + b) * (K * M) = (a * M * K + b * M) * K := by
  rw [Nat.mul_comm K M, ← Nat.mul_assoc, Nat.add_mul, Nat.mul_right_comm a K M]
theorem left_hi (x : Nat × Nat) {n : Nat} (h64 : 64 ≤ n) : (x.2 * 2 ^ (n - 64) % 18446744073709551616, 0) = hv (val x * 2 ^ n) := by
  obtain ⟨m, rfl⟩ : ∃ m, n = 64 + m := ⟨n - 64, by omega⟩
  rw [show 64 + m - 64 = m by omega, Nat.pow_add, p64]
  unfold hv val
  rw [mul_ac]
  generalize x.1 * 2 ^ m = A
  generalize x.2 * 2 ^ m = B
  apply Prod.ext
  · dsimp only; omega
  · dsimp only; omega
theorem right_hi (x : Nat × Nat) (h1 : x.1 < 18446744073709551616) (h2 : x.2 < 18446744073709551616) {n : Nat} (h64 : 64 ≤ n) : (0, x.1 / 2 ^ (n - 64)) = hv (val x / 2 ^ n) := by
  obtain ⟨m, rfl⟩ : ∃ m, n = 64 + m := ⟨n - 64, by omega⟩
  rw [show 64 + m - 64 = m by omega, Nat.pow_add, p64, ← Nat.div_div_eq_div_mul]
  unfold hv val
  have e : (x.1 * 18446744073709551616 + x.2) / 18446744073709551616 = x.1 := by omega
  rw [e]
  have : x.1 / 2 ^ m < 18446744073709551616 := Nat.lt_of_le_of_lt (Nat.div_le_self _ _) h1
  generalize x.1 / 2 ^ m = A at *
  apply Prod.ext
  · dsimp only; omega
  · dsimp only; omega
def top (v i : Nat) : Nat := v / 2 ^ (128 - i)
def bitAt (v i : Nat) : Nat := v / 2 ^ (127 - i) % 2
theorem top_zero {v : Nat} (h : v < 340282366920938463463374607431768211456) : top v 0 = 0 := by
  unfold top
  exact Nat.div_eq_of_lt (by rw [show 2 ^ (128 - 0) = 340282366920938463463374607431768211456 by decide]; exact h)
theorem top_all (v : Nat) : top v 128 = v := by unfold top; rw [show 128 - 128 = 0 from rfl, Nat.pow_zero, Nat.div_one]
theorem top_step (v : Nat) {i : Nat} (h : i < 128) : top v (i + 1) = 2 * top v i + bitAt v i := by
  unfold top bitAt
  have e1 : 128 - (i + 1) = 127 - i := by omega
  have e2 : 128 - i = 127 - i + 1 := by omega
  rw [e1, e2, Nat.pow_succ, ← Nat.div_div_eq_div_mul]
  omega
theorem top_le (v : Nat) (i : Nat) : top v i ≤ v := Nat.div_le_self _ _
theorem bit_01 (v i : Nat) : bitAt v i = 0 ∨ bitAt v i = 1 := by unfold bitAt; omega
theorem ten_step (p b : Nat) (hb : b = 0 ∨ b = 1) : (2 * p + b) / 10 = 2 * (p / 10) + (if 10 ≤ 2 * (p % 10) + b then 1 else 0) ∧ (2 * p + b) % 10 = if 10 ≤ 2 * (p % 10) + b then 2 * (p % 10) + b - 10 else 2 * (p % 10) + b := by
  split <;> omega
theorem or_one (q : Nat) : ((hv (2 * q)).1, (hv (2 * q)).2 ||| 1) = hv (2 * q + 1) := by
  have e : (hv (2 * q)).2 = q % 9223372036854775808 * 2 ^ 1 := by
    unfold hv; dsimp only; omega
  rw [e, or_add (n := 1) (by decide)]
  unfold hv
  apply Prod.ext
  · dsimp only; omega
  · dsimp only; omega
def first (v n : Nat) : Nat := v / 2 ^ (128 - n) * 2 ^ (128 - n)
theorem first_le (v n : Nat) : first v n ≤ v := Nat.div_mul_le_self _ _
theorem and_mask {m n x : Nat} (h : n ≤ m) (hx : x < 2 ^ m) : x &&& (2 ^ m - 2 ^ n) = x / 2 ^ n * 2 ^ n := by
  apply Nat.eq_of_testBit_eq
  intro i
  rw [Nat.testBit_and]
  have e1 : (2 ^ m - 2 ^ n) = (2 ^ (m - n) - 1) * 2 ^ n := by
    rw [Nat.sub_mul, ← Nat.pow_add, show m - n + n = m by omega, Nat.one_mul]
  rw [e1, Nat.testBit_mul_two_pow, Nat.testBit_mul_two_pow]
  by_cases hi : n ≤ i
  · rw [decide_eq_true hi, Bool.true_and, Bool.true_and, Nat.testBit_two_pow_sub_one, Nat.testBit_div_two_pow, show i - n + n = i by omega]
    by_cases him : i < m
    · rw [decide_eq_true (by omega), Bool.and_true]
    · rw [decide_eq_false (by omega), Bool.and_false]
      symm
      exact Nat.testBit_lt_two_pow (Nat.lt_of_lt_of_le hx (Nat.pow_le_pow_right (by decide) (by omega)))
  · rw [decide_eq_false hi, Bool.false_and, Bool.false_and, Bool.and_false]
theorem hv_and (a b : Nat) : ((hv a).1 &&& (hv b).1, (hv a).2 &&& (hv b).2) = hv (a &&& b) := by
  have e : (18446744073709551616 : Nat) = 2 ^ 64 := by decide
  unfold hv
  rw [e]
  apply Prod.ext
  · apply Nat.eq_of_testBit_eq
    intro i
    simp only [Nat.testBit_and, Nat.testBit_mod_two_pow, Nat.testBit_div_two_pow]
    cases decide (i < 64) <;> simp
  · apply Nat.eq_of_testBit_eq
    intro i
    simp only [Nat.testBit_and, Nat.testBit_mod_two_pow]
    cases decide (i < 64) <;> simp
theorem p128 : (2 : Nat) ^ 128 = 340282366920938463463374607431768211456 := by decide
theorem hv_add (k n : Nat) : hv (k * 340282366920938463463374607431768211456 + n) = hv n := by
  unfold hv
  apply Prod.ext
  · dsimp only; omega
  · dsimp only; omega
theorem hv_mask {k : Nat} (h : k ≤ 128) : hv (340282366920938463463374607431768211455 * 2 ^ k) = hv (2 ^ 128 - 2 ^ k) := by
  have h1 : 2 ^ k ≤ 2 ^ 128 := Nat.pow_le_pow_right (by decide) h
  have h0 : 0 < 2 ^ k := Nat.two_pow_pos k
  have e : 340282366920938463463374607431768211455 * 2 ^ k = (2 ^ k - 1) * 340282366920938463463374607431768211456 + (2 ^ 128 - 2 ^ k) := by
    rw [p128] at *
    generalize 2 ^ k = P at *
    omega
  rw [e, hv_add]
theorem first_and {v n : Nat} (h : v < 340282366920938463463374607431768211456) : v &&& (2 ^ 128 - 2 ^ (128 - n)) = first v n := and_mask (by omega) (by rw [p128]; exact h)
theorem first_lt {v n : Nat} (h : v < 340282366920938463463374607431768211456) : first v n < 340282366920938463463374607431768211456 := Nat.lt_of_le_of_lt (first_le v n) h
theorem first_eq {v n : Nat} : first v n = v ↔ v % 2 ^ (128 - n) = 0 := by
  unfold first
  have := Nat.div_add_mod v (2 ^ (128 - n))
  rw [Nat.mul_comm] at this
  omega
theorem first_all (v : Nat) : first v 128 = v := by unfold first; rw [show 128 - 128 = 0 from rfl, Nat.pow_zero, Nat.div_one, Nat.mul_one]
end Go.Proofs.YtngecegnlhmnlaaGreatDoor.Wi
namespace Go.Proofs.YtngecegnlhmnlaaGreatDoor.Ke
open Go Go.RowKit Go.Vc Go.Proofs.YtngecegnlhmnlaaGreatDoor.Fs Go.Proofs.YtngecegnlhmnlaaGreatDoor.Fo Go.Proofs.YtngecegnlhmnlaaGreatDoor.Si Go.Proofs.YtngecegnlhmnlaaGreatDoor.Wi
theorem hv_big (v : Nat) {n : Nat} (h : 128 ≤ n) : hv (v * 2 ^ n) = (0, 0) := by
  obtain ⟨m, rfl⟩ : ∃ m, n = 128 + m := ⟨n - 128, by omega⟩
  have e : v * 2 ^ (128 + m) = v * 2 ^ m * 340282366920938463463374607431768211456 + 0 := by
    rw [Nat.pow_add, p128, Nat.add_zero, Nat.mul_comm _ (2 ^ m), ← Nat.mul_assoc]
  rw [e, hv_add]; rfl
theorem hv_small {v n : Nat} (hv' : v < 340282366920938463463374607431768211456) (h : 128 ≤ n) : hv (v / 2 ^ n) = (0, 0) := by
  have : v / 2 ^ n = 0 := Nat.div_eq_of_lt (Nat.lt_of_lt_of_le hv' (by rw [← p128]; exact Nat.pow_le_pow_right (by decide) h))
  rw [this]; rfl
theorem sh64 {n : Nat} (h : n ≤ 64) : (2 ^ (min (Int.toNat (n : Int)) (IntKind.u64).bits) : Int) = ((2 ^ n : Nat) : Int) := by
  have b : (IntKind.u64).bits = 64 := rfl
  rw [b, Int.toNat_natCast, Nat.min_eq_left h]; simp
theorem left_gives (x : Nat × Nat) (h1 : x.1 < 18446744073709551616) (h2 : x.2 < 18446744073709551616) (n : Nat) (hn : n ≤ 1000000) (W : World) :
    Gives Tryz.prog 174 #[.agg (enW x).toArray, .int .i64 (n : Int)] W fun v W' => v = .agg (enW (hv (val x * 2 ^ n))).toArray ∧ Below W.heap.size W W' := F174_fn (by
  unfold F174
  have hS := Ow.start NoS W
  refine hS.new fun b1 W1 hS => hS.new fun b2 W2 hS => If.dec (fun h0 => ?_) fun h0 => If.dec (fun h8 => ?_) fun h8 => If.dec (fun h6 => ?_) fun h6 => ?_
  · obtain rfl : n = 0 := by omega
    rw [Nat.pow_zero, Nat.mul_one, hv_val h1 h2]
    exact hS.ldw 1 rfl rfl (hS.stw 0 rfl (cs := enW x) rfl rfl rfl fun W3 hS => hS.ldw 0 rfl rfl ⟨rfl, hS.bel⟩)
  · rw [hv_big _ (by omega)]
    exact BldC.mk (cs := enW (0, 0)) trivial rfl (hS.stw 0 rfl (cs := enW (0, 0)) rfl rfl rfl fun W3 hS => hS.ldw 0 rfl rfl ⟨rfl, hS.bel⟩)
  · rw [← left_hi x (show 64 ≤ n by omega)]
    have e : IntKind.i64.wrap ((n : Int) - 64) = ((n - 64 : Nat) : Int) := by rw [wrap_i64 (by omega) (by omega)]; omega
    rw [e]
    refine hS.ldA 1 rfl rfl (AsI.mk ⟨by omega, ?_⟩)
    rw [sh64 (by omega), ← Int.natCast_mul, w64]
    exact BldC.mk (cs := enW (x.2 * 2 ^ (n - 64) % 18446744073709551616, 0)) ⟨rfl, by decide, trivial⟩ rfl (hS.stw 0 rfl (cs := enW (x.2 * 2 ^ (n - 64) % 18446744073709551616, 0)) rfl rfl rfl fun W3 hS => hS.ldw 0 rfl rfl ⟨rfl, hS.bel⟩)
  · rw [← left_lo x h2 (show n < 64 by omega)]
    have e : IntKind.i64.wrap (64 - (n : Int)) = ((64 - n : Nat) : Int) := by rw [wrap_i64 (by omega) (by omega)]; omega
    rw [e]
    refine hS.ld 1 rfl rfl (AsI.mk ⟨by omega, ?_⟩)
    refine hS.ldA 1 rfl rfl (AsI.mk ⟨by omega, ?_⟩)
    refine hS.ldA 1 rfl rfl (AsI.mk (hS.any fun W3 hS => ⟨by omega, ?_⟩))
    rw [sh64 (by omega), sh64 (by omega), ← Int.natCast_mul, ← Int.natCast_mul, w64 (x.1 * 2 ^ n), w64 (x.2 * 2 ^ n), fd _ _ (Nat.two_pow_pos _), or0 _ _ (Nat.mod_lt _ (by decide)) (Nat.lt_of_le_of_lt (Nat.div_le_self _ _) h2)]
    exact BldC.mk (cs := enW (x.1 * 2 ^ n % 18446744073709551616 ||| x.2 / 2 ^ (64 - n), x.2 * 2 ^ n % 18446744073709551616)) ⟨rfl, by decide, rfl, by decide, trivial⟩ rfl (hS.stw 0 rfl (cs := enW (x.1 * 2 ^ n % 18446744073709551616 ||| x.2 / 2 ^ (64 - n), x.2 * 2 ^ n % 18446744073709551616)) rfl rfl rfl fun W4 hS => hS.ldw 0 rfl rfl ⟨rfl, hS.bel⟩))
theorem rightN_gives (x : Nat × Nat) (h1 : x.1 < 18446744073709551616) (h2 : x.2 < 18446744073709551616) (n : Nat) (hn : n ≤ 1000000) (W : World) :
    Gives Tryz.prog 85 #[.agg (enW x).toArray, .int .i64 (n : Int)] W fun v W' => v = .agg (enW (hv (val x / 2 ^ n))).toArray ∧ Below W.heap.size W W' := F85_fn (by
  unfold F85
  have hS := Ow.start NoS W
  refine hS.new fun b1 W1 hS => hS.new fun b2 W2 hS => If.dec (fun h0 => ?_) fun h0 => If.dec (fun h8 => ?_) fun h8 => If.dec (fun h6 => ?_) fun h6 => ?_
  · obtain rfl : n = 0 := by omega
    rw [Nat.pow_zero, Nat.div_one, hv_val h1 h2]
    exact hS.ldw 1 rfl rfl (hS.stw 0 rfl (cs := enW x) rfl rfl rfl fun W3 hS => hS.ldw 0 rfl rfl ⟨rfl, hS.bel⟩)
  · rw [hv_small (val_lt h1 h2) (by omega)]
    exact BldC.mk (cs := enW (0, 0)) trivial rfl (hS.stw 0 rfl (cs := enW (0, 0)) rfl rfl rfl fun W3 hS => hS.ldw 0 rfl rfl ⟨rfl, hS.bel⟩)
  · rw [← right_hi x h1 h2 (show 64 ≤ n by omega)]
    have e : IntKind.i64.wrap ((n : Int) - 64) = ((n - 64 : Nat) : Int) := by rw [wrap_i64 (by omega) (by omega)]; omega
    rw [e]
    refine hS.ld 1 rfl rfl (AsI.mk ⟨by omega, ?_⟩)
    rw [sh64 (by omega), fd _ _ (Nat.two_pow_pos _)]
    exact BldC.mk (cs := enW (0, x.1 / 2 ^ (n - 64))) ⟨rfl, by decide, trivial⟩ rfl (hS.stw 0 rfl (cs := enW (0, x.1 / 2 ^ (n - 64))) rfl rfl rfl fun W3 hS => hS.ldw 0 rfl rfl ⟨rfl, hS.bel⟩)
  · rw [← right_lo x h1 h2 (show n < 64 by omega)]
    have e : IntKind.i64.wrap (64 - (n : Int)) = ((64 - n : Nat) : Int) := by rw [wrap_i64 (by omega) (by omega)]; omega
    rw [e]
    refine hS.ld 1 rfl rfl (AsI.mk ⟨by omega, ?_⟩)
    refine hS.ldA 1 rfl rfl (AsI.mk ⟨by omega, ?_⟩)
    refine hS.ld 1 rfl rfl (AsI.mk (hS.any fun W3 hS => ⟨by omega, ?_⟩))
    rw [sh64 (by omega), sh64 (by omega), ← Int.natCast_mul, w64 (x.1 * 2 ^ (64 - n)), fd _ _ (Nat.two_pow_pos _), fd _ _ (Nat.two_pow_pos _), or0 _ _ (Nat.lt_of_le_of_lt (Nat.div_le_self _ _) h2) (Nat.mod_lt _ (by decide))]
    exact BldC.mk (cs := enW (x.1 / 2 ^ n, x.2 / 2 ^ n ||| x.1 * 2 ^ (64 - n) % 18446744073709551616)) ⟨rfl, by decide, rfl, by decide, trivial⟩ rfl (hS.stw 0 rfl (cs := enW (x.1 / 2 ^ n, x.2 / 2 ^ n ||| x.1 * 2 ^ (64 - n) % 18446744073709551616)) rfl rfl rfl fun W4 hS => hS.ldw 0 rfl rfl ⟨rfl, hS.bel⟩))
end Go.Proofs.YtngecegnlhmnlaaGreatDoor.Ke
namespace Go.Proofs.YtngecegnlhmnlaaGreatDoor.Fs
open Go Go.RowKit Go.Vc
set_option linter.unusedVariables false
def F130 (g0 : Array Value) (g1 : Array Value) (Q : Value → World → Prop) (kp : List PanicEntry → World → Prop) (W : World) : Prop :=
  NewA g0 120 W fun q2 W_1 =>
  NewA g1 120 W_1 fun q3 W_2 =>
  Ld1 W_2 q3 fun u8 =>
  AsI .u64 u8 fun x8 =>
  Ld1 W_2 (q2.add 1) fun u11 =>
  AsI .u64 u11 fun x11 =>
  Ld1 W_2 (q3.add 1) fun u13 =>
  AsI .u64 u13 fun x13 =>
  Any W_2 fun W_3 =>
  Ld1 W_3 q2 fun u6 =>
  AsI .u64 u6 fun x6 =>
  CallK Tryz.prog 180 #[.int .u64 x6, .int .u64 x8] W_3 kp fun u9 W_4 =>
  AsI .i64 u9 fun x9 =>
  StL W_4 (q2.add 1) (.int .u64 x11) <|
  StL W_4 (q3.add 1) (.int .u64 x13) <|
  CallK Tryz.prog 180 #[.int .u64 x11, .int .u64 x13] W_4 kp fun u14 W_5 =>
  AsI .i64 u14 fun x14 =>
  NewSC 2 (zeroRow 2 #[.int .i64 0]) [(0, 1, .int .i64 x9), (1, 1, .int .i64 x14)] 3 W_5 fun q15 W_6 =>
  CallK Tryz.prog 179 #[.slice (some q15) 2 2] W_6 kp fun u16 W_7 =>
  AsI .i64 u16 fun x16 =>
  Q (.int .i64 x16) W_7
theorem F130_eq (g0 : Array Value) (g1 : Array Value) (Q : Value → World → Prop) (kp : List PanicEntry → World → Prop) (W : World) : vcFn Tryz.prog [(1, [0, 1, 4, 9, 10, 11, 12])] Tryz.f130 [.agg g0, .agg g1] W Q kp = F130 g0 g1 Q kp W := by kernel_rfl
theorem F130_ok : okFn Tryz.f130 2 = true := by kernel_rfl
theorem F130_fn {g0 : Array Value} {g1 : Array Value} {Q : Value → World → Prop} {W : World} (h : F130 g0 g1 Q (fun _ _ => False) W) : Gives Tryz.prog 130 #[.agg g0, .agg g1] W Q := fn_of_vc (plan := [(1, [0, 1, 4, 9, 10, 11, 12])]) mixed Tryz.func130 F130_ok (by rw [F130_eq]; exact h)
def F204 (g0 : Array Value) (g1 : Array Value) (Q : Value → World → Prop) (kp : List PanicEntry → World → Prop) (W : World) : Prop :=
  NewA g0 120 W fun q2 W_1 =>
  NewA g1 120 W_1 fun q3 W_2 =>
  NewA #[.int .u64 0, .int .u64 0] 120 W_2 fun q4 W_3 =>
  Ld1 W_3 (q2.add 1) fun u12 =>
  AsI .u64 u12 fun x12 =>
  Ld1 W_3 (q3.add 1) fun u14 =>
  AsI .u64 u14 fun x14 =>
  YieldK Tryz.prog (callSem (.func (.func 222) #[] #[]) #[.int .u64 x12, .int .u64 x14, .int .u64 0]) W_3 kp fun u15 W_4 =>
  AsT2 u15 fun u15a u15b =>
  AsI .u64 u15a fun x15a =>
  AsI .u64 u15b fun x15b =>
  Ld1 W_4 q2 fun u20 =>
  AsI .u64 u20 fun x20 =>
  Ld1 W_4 q3 fun u22 =>
  AsI .u64 u22 fun x22 =>
  YieldK Tryz.prog (callSem (.func (.func 222) #[] #[]) #[.int .u64 x20, .int .u64 x22, .int .u64 x15b]) W_4 kp fun u24 W_5 =>
  AsT2 u24 fun u24a u24b =>
  AsI .u64 u24a fun x24a =>
  AsI .u64 u24b fun x24b =>
  BldC [.int .u64 0, .int .u64 0] [(0, 1, .int .u64 x24a), (1, 1, .int .u64 x15a)] fun cs29 =>
  StV 2 W_5 q4 (.agg cs29) fun W_6 =>
  LdNC W_6 q4 2 fun l4 =>
  Q (.tuple #[.agg l4.toArray, .bool ((x24b : Int) == 1)]) W_6
theorem F204_eq (g0 : Array Value) (g1 : Array Value) (Q : Value → World → Prop) (kp : List PanicEntry → World → Prop) (W : World) : vcFn Tryz.prog [] Tryz.f204 [.agg g0, .agg g1] W Q kp = F204 g0 g1 Q kp W := by kernel_rfl
theorem F204_ok : okFn Tryz.f204 2 = true := by kernel_rfl
theorem F204_fn {g0 : Array Value} {g1 : Array Value} {Q : Value → World → Prop} {W : World} (h : F204 g0 g1 Q (fun _ _ => False) W) : Gives Tryz.prog 204 #[.agg g0, .agg g1] W Q := fn_of_vc (plan := []) mixed Tryz.func204 F204_ok (by rw [F204_eq]; exact h)
def F207 (g0 : Array Value) (g1 : Array Value) (Q : Value → World → Prop) (kp : List PanicEntry → World → Prop) (W : World) : Prop :=
  NewA g0 120 W fun q2 W_1 =>
  NewA g1 120 W_1 fun q3 W_2 =>
  NewA #[.int .u64 0, .int .u64 0] 120 W_2 fun q4 W_3 =>
  Ld1 W_3 q2 fun u6 =>
  AsI .u64 u6 fun x6 =>
  Ld1 W_3 q3 fun u8 =>
  AsI .u64 u8 fun x8 =>
  Ld1 W_3 (q2.add 1) fun u11 =>
  AsI .u64 u11 fun x11 =>
  Ld1 W_3 (q3.add 1) fun u13 =>
  AsI .u64 u13 fun x13 =>
  BldC [.int .u64 0, .int .u64 0] [(0, 1, .int .u64 (IntKind.u64.wrap ((((BitVec.ofInt (IntKind.u64).bits x6) &&& (BitVec.ofInt (IntKind.u64).bits x8)).toNat : Int)))), (1, 1, .int .u64 (IntKind.u64.wrap ((((BitVec.ofInt (IntKind.u64).bits x11) &&& (BitVec.ofInt (IntKind.u64).bits x13)).toNat : Int))))] fun cs15 =>
  StV 2 W_3 q4 (.agg cs15) fun W_4 =>
  LdNC W_4 q4 2 fun l4 =>
  Q (.agg l4.toArray) W_4
theorem F207_eq (g0 : Array Value) (g1 : Array Value) (Q : Value → World → Prop) (kp : List PanicEntry → World → Prop) (W : World) : vcFn Tryz.prog [] Tryz.f207 [.agg g0, .agg g1] W Q kp = F207 g0 g1 Q kp W := by kernel_rfl
theorem F207_ok : okFn Tryz.f207 2 = true := by kernel_rfl
theorem F207_fn {g0 : Array Value} {g1 : Array Value} {Q : Value → World → Prop} {W : World} (h : F207 g0 g1 Q (fun _ _ => False) W) : Gives Tryz.prog 207 #[.agg g0, .agg g1] W Q := fn_of_vc (plan := []) mixed Tryz.func207 F207_ok (by rw [F207_eq]; exact h)
def F208 (x0 : Int) (Q : Value → World → Prop) (kp : List PanicEntry → World → Prop) (W : World) : Prop :=
  NewA #[.int .u64 0, .int .u64 0] 120 W fun q2 W_1 =>
  BldC [.int .u64 0, .int .u64 0] [(0, 1, .int .u64 18446744073709551615), (1, 1, .int .u64 18446744073709551615)] fun cs4 =>
  NewA #[.int .u64 0, .int .u64 0] 120 W_1 fun q3 W_2 =>
  StV 2 W_2 q3 (.agg cs4) fun W_3 =>
  If (decide ((x0 : Int) ≤ 0)) (BldC [.int .u64 0, .int .u64 0] [] fun cs7 =>
  StV 2 W_3 q2 (.agg cs7) fun W_4 =>
  LdNC W_4 q2 2 fun l2 =>
  Q (.agg l2.toArray) W_4) (LdNC W_3 q3 2 fun l8 =>
  CallK Tryz.prog 174 #[.agg l8.toArray, .int .i64 (IntKind.i64.wrap (128 - (if (128 : Int) < x0 then 128 else x0)))] W_3 kp fun u12 W_5 =>
  StV 2 W_5 q2 u12 fun W_6 =>
  LdNC W_6 q2 2 fun l2_1 =>
  Q (.agg l2_1.toArray) W_6)
theorem F208_eq (x0 : Int) (Q : Value → World → Prop) (kp : List PanicEntry → World → Prop) (W : World) : vcFn Tryz.prog [] Tryz.f208 [.int .i64 x0] W Q kp = F208 x0 Q kp W := by kernel_rfl
theorem F208_ok : okFn Tryz.f208 1 = true := by kernel_rfl
theorem F208_fn {x0 : Int} {Q : Value → World → Prop} {W : World} (h : F208 x0 Q (fun _ _ => False) W) : Gives Tryz.prog 208 #[.int .i64 x0] W Q := fn_of_vc (plan := []) mixed Tryz.func208 F208_ok (by rw [F208_eq]; exact h)
def F183 (g0 : Array Value) (x1 : Int) (Q : Value → World → Prop) (kp : List PanicEntry → World → Prop) (W : World) : Prop :=
  NewA g0 120 W fun q2 W_1 =>
  NewA #[.int .u64 0, .int .u64 0] 120 W_1 fun q4 W_2 =>
  LdNC W_2 q2 2 fun l5 =>
  Any W_2 fun W_3 =>
  CallK Tryz.prog 208 #[.int .i64 x1] W_3 kp fun u7 W_4 =>
  StN W_4 q2 l5.toArray 2 <|
  CallK Tryz.prog 207 #[.agg l5.toArray, u7] W_4 kp fun u8 W_5 =>
  StV 2 W_5 q4 u8 fun W_6 =>
  LdNC W_6 q4 2 fun l4 =>
  Q (.agg l4.toArray) W_6
theorem F183_eq (g0 : Array Value) (x1 : Int) (Q : Value → World → Prop) (kp : List PanicEntry → World → Prop) (W : World) : vcFn Tryz.prog [] Tryz.f183 [.agg g0, .int .i64 x1] W Q kp = F183 g0 x1 Q kp W := by kernel_rfl
theorem F183_ok : okFn Tryz.f183 2 = true := by kernel_rfl
theorem F183_fn {g0 : Array Value} {x1 : Int} {Q : Value → World → Prop} {W : World} (h : F183 g0 x1 Q (fun _ _ => False) W) : Gives Tryz.prog 183 #[.agg g0, .int .i64 x1] W Q := fn_of_vc (plan := []) mixed Tryz.func183 F183_ok (by rw [F183_eq]; exact h)
def F194 (g0 : Array Value) (x1 : Int) (Q : Value → World → Prop) (kp : List PanicEntry → World → Prop) (W : World) : Prop :=
  NewA g0 120 W fun q2 W_1 =>
  Join (fun (b10 : Bool) (W_2 : World) =>
  If b10 (Q (.bool false) W_2) (LdNC W_2 q2 2 fun l11 =>
  CallK Tryz.prog 85 #[.agg l11.toArray, .int .i64 (IntKind.i64.wrap (127 - x1))] W_2 kp fun u14 W_3 =>
  AsG u14 fun g15 =>
  Fld g15 1 fun u15 =>
  AsI .u64 u15 fun x15 =>
  Q (.bool (((IntKind.u64.wrap ((((BitVec.ofInt (IntKind.u64).bits x15) &&& (BitVec.ofInt (IntKind.u64).bits 1)).toNat : Int))) : Int) == 1)) W_3)) fun (J : Bool → World → Prop) =>
  If (decide ((x1 : Int) < 0)) (J true W_1) (J (decide ((x1 : Int) ≥ 128)) W_1)
theorem F194_eq (g0 : Array Value) (x1 : Int) (Q : Value → World → Prop) (kp : List PanicEntry → World → Prop) (W : World) : vcFn Tryz.prog [] Tryz.f194 [.agg g0, .int .i64 x1] W Q kp = F194 g0 x1 Q kp W := by kernel_rfl
theorem F194_ok : okFn Tryz.f194 2 = true := by kernel_rfl
theorem F194_fn {g0 : Array Value} {x1 : Int} {Q : Value → World → Prop} {W : World} (h : F194 g0 x1 Q (fun _ _ => False) W) : Gives Tryz.prog 194 #[.agg g0, .int .i64 x1] W Q := fn_of_vc (plan := []) mixed Tryz.func194 F194_ok (by rw [F194_eq]; exact h)
def F179 (a0 : Option Addr) (n0 c0 : Nat) (Q : Value → World → Prop) (kp : List PanicEntry → World → Prop) (W : World) : Prop :=
  Lp (fun s W_1 k =>
  AsI .i64 (s.getD 0 undef) fun x2 =>
  AsI .i64 (s.getD 1 undef) fun x8 =>
  If (decide ((x8 : Int) < (n0 : Int))) (IdxS a0 n0 x8 1 fun q10 =>
  Ld1 W_1 q10 fun u11 =>
  AsI .i64 u11 fun x11 =>
  If ((x11 : Int) != 0) (Q (.int .i64 x11) W_1) (k [.int .i64 x2, .int .i64 (IntKind.i64.wrap (x8 + 1))] W_1)) (Q (.int .i64 0) W_1)) [.int .i64 0, .int .i64 0] W
theorem F179_eq (a0 : Option Addr) (n0 c0 : Nat) (Q : Value → World → Prop) (kp : List PanicEntry → World → Prop) (W : World) : vcFn Tryz.prog [] Tryz.f179 [.slice a0 n0 c0] W Q kp = F179 a0 n0 c0 Q kp W := by kernel_rfl
theorem F179_ok : okFn Tryz.f179 1 = true := by kernel_rfl
theorem F179_fn {a0 : Option Addr} {n0 c0 : Nat} {Q : Value → World → Prop} {W : World} (h : F179 a0 n0 c0 Q (fun _ _ => False) W) : Gives Tryz.prog 179 #[.slice a0 n0 c0] W Q := fn_of_vc (plan := []) mixed Tryz.func179 F179_ok (by rw [F179_eq]; exact h)
def F180 (x0 : Int) (x1 : Int) (Q : Value → World → Prop) (kp : List PanicEntry → World → Prop) (W : World) : Prop :=
  CallK Tryz.prog 205 #[.int .u64 x0] W kp fun u8 W_1 =>
  AsB u8 fun b8 =>
  CallK Tryz.prog 205 #[.int .u64 x1] W_1 kp fun u10 W_2 =>
  AsB u10 fun b10 =>
  If b8 (If b10 (Q (.int .i64 0) W_2) (Q (.int .i64 (-1)) W_2)) (If b10 (Q (.int .i64 1) W_2) (If (decide ((x0 : Int) < x1)) (Q (.int .i64 (-1)) W_2) (If (decide ((x0 : Int) > x1)) (Q (.int .i64 1) W_2) (Q (.int .i64 0) W_2))))
theorem F180_eq (x0 : Int) (x1 : Int) (Q : Value → World → Prop) (kp : List PanicEntry → World → Prop) (W : World) : vcFn Tryz.prog [] Tryz.f180 [.int .u64 x0, .int .u64 x1] W Q kp = F180 x0 x1 Q kp W := by kernel_rfl
theorem F180_ok : okFn Tryz.f180 2 = true := by kernel_rfl
theorem F180_fn {x0 : Int} {x1 : Int} {Q : Value → World → Prop} {W : World} (h : F180 x0 x1 Q (fun _ _ => False) W) : Gives Tryz.prog 180 #[.int .u64 x0, .int .u64 x1] W Q := fn_of_vc (plan := []) mixed Tryz.func180 F180_ok (by rw [F180_eq]; exact h)
def F205 (x0 : Int) (Q : Value → World → Prop) (kp : List PanicEntry → World → Prop) (W : World) : Prop :=
  Q (.bool ((x0 : Int) != x0)) W
theorem F205_eq (x0 : Int) (Q : Value → World → Prop) (kp : List PanicEntry → World → Prop) (W : World) : vcFn Tryz.prog [] Tryz.f205 [.int .u64 x0] W Q kp = F205 x0 Q kp W := by kernel_rfl
theorem F205_ok : okFn Tryz.f205 1 = true := by kernel_rfl
theorem F205_fn {x0 : Int} {Q : Value → World → Prop} {W : World} (h : F205 x0 Q (fun _ _ => False) W) : Gives Tryz.prog 205 #[.int .u64 x0] W Q := fn_of_vc (plan := []) mixed Tryz.func205 F205_ok (by rw [F205_eq]; exact h)
def F159 (g0 : Array Value) (Q : Value → World → Prop) (kp : List PanicEntry → World → Prop) (W : World) : Prop :=
  NewA g0 126 W fun q1 W_1 =>
  NewA #[.int .u64 0, .int .u64 0, .int .u64 0, .int .u64 0, .int .u64 0, .int .u64 0, .int .u64 0, .int .u64 0, .int .u64 0, .int .u64 0, .int .u64 0, .int .u64 0, .int .u64 0, .int .u64 0, .int .u64 0, .int .u64 0, .int .u64 0, .int .u64 0, .int .u64 0, .int .u64 0, .int .u64 0, .int .u64 0, .int .u64 0, .int .u64 0, .int .u64 0, .int .u64 0, .int .u64 0, .int .u64 0, .int .u64 0, .int .u64 0, .int .u64 0, .int .u64 0, .int .u64 0, .int .u64 0, .int .u64 0, .int .u64 0, .int .u64 0, .int .u64 0, .int .u64 0, .int .u64 0, .int .u64 0, .int .u64 0, .int .u64 0, .int .u64 0, .int .u64 0, .int .u64 0, .int .u64 0, .int .u64 0, .int .u64 0, .int .u64 0, .int .u64 0, .int .u64 0, .int .u64 0, .int .u64 0, .int .u64 0, .int .u64 0, .int .u64 0, .int .u64 0, .int .u64 0, .int .u64 0, .int .u64 0, .int .u64 0, .int .u64 0, .int .u64 0, .int .u64 0, .int .u64 0, .int .u64 0, .int .u64 0, .int .u64 0, .int .u64 0, .int .u64 0, .int .u64 0, .int .u64 0, .int .u64 0, .int .u64 0, .int .u64 0, .int .u64 0, .int .u64 0, .int .u64 0, .int .u64 0, .int .u64 0, .int .u64 0, .int .u64 0, .int .u64 0, .int .u64 0, .int .u64 0, .int .u64 0, .int .u64 0, .int .u64 0, .int .u64 0, .int .u64 0, .int .u64 0, .int .u64 0, .int .u64 0, .int .u64 0, .int .u64 0, .int .u64 0, .int .u64 0, .int .u64 0, .int .u64 0, .int .u64 0, .int .u64 0, .int .u64 0, .int .u64 0, .int .u64 0, .int .u64 0, .int .u64 0, .int .u64 0, .int .u64 0, .int .u64 0, .int .u64 0, .int .u64 0, .int .u64 0, .int .u64 0, .int .u64 0, .int .u64 0, .int .u64 0, .int .u64 0, .int .u64 0, .int .u64 0, .int .u64 0, .int .u64 0, .int .u64 0, .int .u64 0, .int .u64 0, .int .u64 0, .int .u64 0, .int .u64 0] 188 W_1 fun q2 W_2 =>
  NewA #[.int .u64 0, .int .u64 0, .int .u64 0, .int .u64 0, .int .u64 0, .int .u64 0, .int .u64 0, .int .u64 0, .int .u64 0, .int .u64 0, .int .u64 0, .int .u64 0, .int .u64 0, .int .u64 0, .int .u64 0, .int .u64 0, .int .u64 0, .int .u64 0, .int .u64 0, .int .u64 0, .int .u64 0, .int .u64 0, .int .u64 0, .int .u64 0, .int .u64 0, .int .u64 0, .int .u64 0, .int .u64 0, .int .u64 0, .int .u64 0, .int .u64 0, .int .u64 0, .int .u64 0, .int .u64 0, .int .u64 0, .int .u64 0, .int .u64 0, .int .u64 0, .int .u64 0, .int .u64 0, .int .u64 0, .int .u64 0, .int .u64 0, .int .u64 0, .int .u64 0, .int .u64 0, .int .u64 0, .int .u64 0, .int .u64 0, .int .u64 0, .int .u64 0, .int .u64 0, .int .u64 0, .int .u64 0, .int .u64 0, .int .u64 0, .int .u64 0, .int .u64 0, .int .u64 0, .int .u64 0, .int .u64 0, .int .u64 0, .int .u64 0, .int .u64 0, .int .u64 0, .int .u64 0, .int .u64 0, .int .u64 0, .int .u64 0, .int .u64 0, .int .u64 0, .int .u64 0, .int .u64 0, .int .u64 0, .int .u64 0, .int .u64 0, .int .u64 0, .int .u64 0, .int .u64 0, .int .u64 0, .int .u64 0, .int .u64 0, .int .u64 0, .int .u64 0, .int .u64 0, .int .u64 0, .int .u64 0, .int .u64 0, .int .u64 0, .int .u64 0, .int .u64 0, .int .u64 0, .int .u64 0, .int .u64 0, .int .u64 0, .int .u64 0, .int .u64 0, .int .u64 0, .int .u64 0, .int .u64 0, .int .u64 0, .int .u64 0, .int .u64 0, .int .u64 0, .int .u64 0, .int .u64 0, .int .u64 0, .int .u64 0, .int .u64 0, .int .u64 0, .int .u64 0, .int .u64 0, .int .u64 0, .int .u64 0, .int .u64 0, .int .u64 0, .int .u64 0, .int .u64 0, .int .u64 0, .int .u64 0, .int .u64 0, .int .u64 0, .int .u64 0, .int .u64 0, .int .u64 0, .int .u64 0, .int .u64 0, .int .u64 0] 188 W_2 fun q3 W_3 =>
  Lp (fun s W_4 k =>
  AsI .i64 (s.getD 0 undef) fun x4 =>
  If (decide ((x4 : Int) < 64)) (Ld1 W_4 q1 fun u12 =>
  AsI .u64 u12 fun x12 =>
  Dv 2 <|
  IdxA q3 128 (IntKind.i64.wrap (63 - x4)) 1 fun q14 =>
  StV 1 W_4 q14 (.int .u64 (x12.tmod 2)) fun W_5 =>
  Ld1 W_5 (q1.add 1) fun u18 =>
  AsI .u64 u18 fun x18 =>
  Dv 2 <|
  IdxA q3 128 (IntKind.i64.wrap (127 - x4)) 1 fun q20 =>
  StV 1 W_5 q20 (.int .u64 (x18.tmod 2)) fun W_6 =>
  Ld1 W_6 q1 fun u22 =>
  AsI .u64 u22 fun x22 =>
  Dv 2 <|
  Ld1 W_6 (q1.add 1) fun u25 =>
  AsI .u64 u25 fun x25 =>
  Dv 2 <|
  StV 1 W_6 q1 (.int .u64 (IntKind.u64.wrap (x22.tdiv 2))) fun W_7 =>
  StV 1 W_7 (q1.add 1) (.int .u64 (IntKind.u64.wrap (x25.tdiv 2))) fun W_8 =>
  k [.int .i64 (IntKind.i64.wrap (x4 + 1))] W_8) (LdNC W_4 q3 128 fun l29 =>
  StV 128 W_4 q2 (.agg l29.toArray) fun W_9 =>
  LdNC W_9 q2 128 fun l2 =>
  Q (.agg l2.toArray) W_9)) [.int .i64 0] W_3
theorem F159_eq (g0 : Array Value) (Q : Value → World → Prop) (kp : List PanicEntry → World → Prop) (W : World) : vcFn Tryz.prog [] Tryz.f159 [.agg g0] W Q kp = F159 g0 Q kp W := by kernel_rfl
theorem F159_ok : okFn Tryz.f159 1 = true := by kernel_rfl
theorem F159_fn {g0 : Array Value} {Q : Value → World → Prop} {W : World} (h : F159 g0 Q (fun _ _ => False) W) : Gives Tryz.prog 159 #[.agg g0] W Q := fn_of_vc (plan := []) mixed Tryz.func159 F159_ok (by rw [F159_eq]; exact h)
def F197 (g0 : Array Value) (Q : Value → World → Prop) (kp : List PanicEntry → World → Prop) (W : World) : Prop :=
  NewA g0 188 W fun q1 W_1 =>
  NewA #[.int .u64 0, .int .u64 0] 126 W_1 fun q2 W_2 =>
  BldC [.int .u64 0, .int .u64 0] [] fun cs5 =>
  NewA #[.int .u64 0, .int .u64 0] 126 W_2 fun q3 W_3 =>
  StV 2 W_3 q3 (.agg cs5) fun W_4 =>
  Lp (fun s W_5 k =>
  AsI .i64 (s.getD 0 undef) fun x4 =>
  If (decide ((x4 : Int) < 64)) (Ld1 W_5 q3 fun u11 =>
  AsI .u64 u11 fun x11 =>
  Any W_5 fun W_6 =>
  IdxA q1 128 x4 1 fun q14 =>
  Ld1 W_6 q14 fun u15 =>
  AsI .u64 u15 fun x15 =>
  StV 1 W_6 q3 (.int .u64 (IntKind.u64.wrap ((IntKind.u64.wrap (2 * x11)) + x15))) fun W_7 =>
  Ld1 W_7 (q3.add 1) fun u19 =>
  AsI .u64 u19 fun x19 =>
  Any W_7 fun W_8 =>
  IdxA q1 128 (IntKind.i64.wrap (64 + x4)) 1 fun q23 =>
  Ld1 W_8 q23 fun u24 =>
  AsI .u64 u24 fun x24 =>
  StV 1 W_8 (q3.add 1) (.int .u64 (IntKind.u64.wrap ((IntKind.u64.wrap (2 * x19)) + x24))) fun W_9 =>
  k [.int .i64 (IntKind.i64.wrap (x4 + 1))] W_9) (LdNC W_5 q3 2 fun l27 =>
  StV 2 W_5 q2 (.agg l27.toArray) fun W_10 =>
  LdNC W_10 q2 2 fun l2 =>
  Q (.agg l2.toArray) W_10)) [.int .i64 0] W_4
theorem F197_eq (g0 : Array Value) (Q : Value → World → Prop) (kp : List PanicEntry → World → Prop) (W : World) : vcFn Tryz.prog [] Tryz.f197 [.agg g0] W Q kp = F197 g0 Q kp W := by kernel_rfl
theorem F197_ok : okFn Tryz.f197 1 = true := by kernel_rfl
theorem F197_fn {g0 : Array Value} {Q : Value → World → Prop} {W : World} (h : F197 g0 Q (fun _ _ => False) W) : Gives Tryz.prog 197 #[.agg g0] W Q := fn_of_vc (plan := []) mixed Tryz.func197 F197_ok (by rw [F197_eq]; exact h)
def F168 (g0 : Array Value) (g1 : Array Value) (Q : Value → World → Prop) (kp : List PanicEntry → World → Prop) (W : World) : Prop :=
  NewA g0 126 W fun q2 W_1 =>
  NewA g1 126 W_1 fun q3 W_2 =>
  NewA #[.int .u64 0, .int .u64 0] 126 W_2 fun q4 W_3 =>
  LdNC W_3 q2 2 fun l12 =>
  CallQ Tryz.prog 159 #[.agg l12.toArray] W_3 fun u13 =>
  LdNC W_3 q3 2 fun l14 =>
  CallQ Tryz.prog 159 #[.agg l14.toArray] W_3 fun u15 =>
  Any W_3 fun W_4 =>
  ∀ lo6 hi6 v6, Fresh W_3.heap.size lo6 hi6 W_4 [] → IsNew #[.int .u64 0, .int .u64 0, .int .u64 0, .int .u64 0, .int .u64 0, .int .u64 0, .int .u64 0, .int .u64 0, .int .u64 0, .int .u64 0, .int .u64 0, .int .u64 0, .int .u64 0, .int .u64 0, .int .u64 0, .int .u64 0, .int .u64 0, .int .u64 0, .int .u64 0, .int .u64 0, .int .u64 0, .int .u64 0, .int .u64 0, .int .u64 0, .int .u64 0, .int .u64 0, .int .u64 0, .int .u64 0, .int .u64 0, .int .u64 0, .int .u64 0, .int .u64 0, .int .u64 0, .int .u64 0, .int .u64 0, .int .u64 0, .int .u64 0, .int .u64 0, .int .u64 0, .int .u64 0, .int .u64 0, .int .u64 0, .int .u64 0, .int .u64 0, .int .u64 0, .int .u64 0, .int .u64 0, .int .u64 0, .int .u64 0, .int .u64 0, .int .u64 0, .int .u64 0, .int .u64 0, .int .u64 0, .int .u64 0, .int .u64 0, .int .u64 0, .int .u64 0, .int .u64 0, .int .u64 0, .int .u64 0, .int .u64 0, .int .u64 0, .int .u64 0, .int .u64 0, .int .u64 0, .int .u64 0, .int .u64 0, .int .u64 0, .int .u64 0, .int .u64 0, .int .u64 0, .int .u64 0, .int .u64 0, .int .u64 0, .int .u64 0, .int .u64 0, .int .u64 0, .int .u64 0, .int .u64 0, .int .u64 0, .int .u64 0, .int .u64 0, .int .u64 0, .int .u64 0, .int .u64 0, .int .u64 0, .int .u64 0, .int .u64 0, .int .u64 0, .int .u64 0, .int .u64 0, .int .u64 0, .int .u64 0, .int .u64 0, .int .u64 0, .int .u64 0, .int .u64 0, .int .u64 0, .int .u64 0, .int .u64 0, .int .u64 0, .int .u64 0, .int .u64 0, .int .u64 0, .int .u64 0, .int .u64 0, .int .u64 0, .int .u64 0, .int .u64 0, .int .u64 0, .int .u64 0, .int .u64 0, .int .u64 0, .int .u64 0, .int .u64 0, .int .u64 0, .int .u64 0, .int .u64 0, .int .u64 0, .int .u64 0, .int .u64 0, .int .u64 0, .int .u64 0, .int .u64 0, .int .u64 0, .int .u64 0, .int .u64 0] 188 lo6 hi6 v6 W_4 → AsA v6 fun q6 =>
  ∀ lo7 hi7 v7, Fresh W_3.heap.size lo7 hi7 W_4 [(lo6, hi6)] → IsNew #[.int .u64 0, .int .u64 0, .int .u64 0, .int .u64 0, .int .u64 0, .int .u64 0, .int .u64 0, .int .u64 0, .int .u64 0, .int .u64 0, .int .u64 0, .int .u64 0, .int .u64 0, .int .u64 0, .int .u64 0, .int .u64 0, .int .u64 0, .int .u64 0, .int .u64 0, .int .u64 0, .int .u64 0, .int .u64 0, .int .u64 0, .int .u64 0, .int .u64 0, .int .u64 0, .int .u64 0, .int .u64 0, .int .u64 0, .int .u64 0, .int .u64 0, .int .u64 0, .int .u64 0, .int .u64 0, .int .u64 0, .int .u64 0, .int .u64 0, .int .u64 0, .int .u64 0, .int .u64 0, .int .u64 0, .int .u64 0, .int .u64 0, .int .u64 0, .int .u64 0, .int .u64 0, .int .u64 0, .int .u64 0, .int .u64 0, .int .u64 0, .int .u64 0, .int .u64 0, .int .u64 0, .int .u64 0, .int .u64 0, .int .u64 0, .int .u64 0, .int .u64 0, .int .u64 0, .int .u64 0, .int .u64 0, .int .u64 0, .int .u64 0, .int .u64 0, .int .u64 0, .int .u64 0, .int .u64 0, .int .u64 0, .int .u64 0, .int .u64 0, .int .u64 0, .int .u64 0, .int .u64 0, .int .u64 0, .int .u64 0, .int .u64 0, .int .u64 0, .int .u64 0, .int .u64 0, .int .u64 0, .int .u64 0, .int .u64 0, .int .u64 0, .int .u64 0, .int .u64 0, .int .u64 0, .int .u64 0, .int .u64 0, .int .u64 0, .int .u64 0, .int .u64 0, .int .u64 0, .int .u64 0, .int .u64 0, .int .u64 0, .int .u64 0, .int .u64 0, .int .u64 0, .int .u64 0, .int .u64 0, .int .u64 0, .int .u64 0, .int .u64 0, .int .u64 0, .int .u64 0, .int .u64 0, .int .u64 0, .int .u64 0, .int .u64 0, .int .u64 0, .int .u64 0, .int .u64 0, .int .u64 0, .int .u64 0, .int .u64 0, .int .u64 0, .int .u64 0, .int .u64 0, .int .u64 0, .int .u64 0, .int .u64 0, .int .u64 0, .int .u64 0, .int .u64 0, .int .u64 0, .int .u64 0, .int .u64 0, .int .u64 0] 188 lo7 hi7 v7 W_4 → AsA v7 fun q7 =>
  StV 128 W_4 q6 u13 fun W_5 =>
  StV 128 W_5 q7 u15 fun W_6 =>
  NewA #[.int .u64 0, .int .u64 0, .int .u64 0, .int .u64 0, .int .u64 0, .int .u64 0, .int .u64 0, .int .u64 0, .int .u64 0, .int .u64 0, .int .u64 0, .int .u64 0, .int .u64 0, .int .u64 0, .int .u64 0, .int .u64 0, .int .u64 0, .int .u64 0, .int .u64 0, .int .u64 0, .int .u64 0, .int .u64 0, .int .u64 0, .int .u64 0, .int .u64 0, .int .u64 0, .int .u64 0, .int .u64 0, .int .u64 0, .int .u64 0, .int .u64 0, .int .u64 0, .int .u64 0, .int .u64 0, .int .u64 0, .int .u64 0, .int .u64 0, .int .u64 0, .int .u64 0, .int .u64 0, .int .u64 0, .int .u64 0, .int .u64 0, .int .u64 0, .int .u64 0, .int .u64 0, .int .u64 0, .int .u64 0, .int .u64 0, .int .u64 0, .int .u64 0, .int .u64 0, .int .u64 0, .int .u64 0, .int .u64 0, .int .u64 0, .int .u64 0, .int .u64 0, .int .u64 0, .int .u64 0, .int .u64 0, .int .u64 0, .int .u64 0, .int .u64 0, .int .u64 0, .int .u64 0, .int .u64 0, .int .u64 0, .int .u64 0, .int .u64 0, .int .u64 0, .int .u64 0, .int .u64 0, .int .u64 0, .int .u64 0, .int .u64 0, .int .u64 0, .int .u64 0, .int .u64 0, .int .u64 0, .int .u64 0, .int .u64 0, .int .u64 0, .int .u64 0, .int .u64 0, .int .u64 0, .int .u64 0, .int .u64 0, .int .u64 0, .int .u64 0, .int .u64 0, .int .u64 0, .int .u64 0, .int .u64 0, .int .u64 0, .int .u64 0, .int .u64 0, .int .u64 0, .int .u64 0, .int .u64 0, .int .u64 0, .int .u64 0, .int .u64 0, .int .u64 0, .int .u64 0, .int .u64 0, .int .u64 0, .int .u64 0, .int .u64 0, .int .u64 0, .int .u64 0, .int .u64 0, .int .u64 0, .int .u64 0, .int .u64 0, .int .u64 0, .int .u64 0, .int .u64 0, .int .u64 0, .int .u64 0, .int .u64 0, .int .u64 0, .int .u64 0, .int .u64 0, .int .u64 0, .int .u64 0, .int .u64 0, .int .u64 0] 188 W_6 fun q8 W_7 =>
  Lp (fun s W_8 k =>
  AsI .u64 (s.getD 0 undef) fun x9 =>
  AsI .i64 (s.getD 1 undef) fun x10 =>
  If (decide ((x10 : Int) ≥ 0)) (IdxA q6 128 x10 1 fun q21 =>
  Ld1 W_8 q21 fun u22 =>
  AsI .u64 u22 fun x22 =>
  IdxA q7 128 x10 1 fun q24 =>
  Ld1 W_8 q24 fun u25 =>
  AsI .u64 u25 fun x25 =>
  Any W_8 fun W_9 =>
  Dv 2 <|
  IdxA q8 128 x10 1 fun q32 =>
  StV 1 W_9 q32 (.int .u64 ((IntKind.u64.wrap ((IntKind.u64.wrap (x22 + x25)) + x9)).tmod 2)) fun W_10 =>
  Dv 2 <|
  k [.int .u64 (IntKind.u64.wrap ((IntKind.u64.wrap ((IntKind.u64.wrap (x22 + x25)) + x9)).tdiv 2)), .int .i64 (IntKind.i64.wrap (x10 - 1))] W_10) (LdNC W_8 q8 128 fun l35 =>
  CallK Tryz.prog 197 #[.agg l35.toArray] W_8 kp fun u36 W_11 =>
  StV 2 W_11 q4 u36 fun W_12 =>
  LdNC W_12 q4 2 fun l4 =>
  Q (.tuple #[.agg l4.toArray, .bool ((x9 : Int) == 1)]) W_12)) [.int .u64 0, .int .i64 127] W_7
theorem F168_eq (g0 : Array Value) (g1 : Array Value) (Q : Value → World → Prop) (kp : List PanicEntry → World → Prop) (W : World) : vcFn Tryz.prog [] Tryz.f168 [.agg g0, .agg g1] W Q kp = F168 g0 g1 Q kp W := by kernel_rfl
theorem F168_ok : okFn Tryz.f168 2 = true := by kernel_rfl
theorem F168_fn {g0 : Array Value} {g1 : Array Value} {Q : Value → World → Prop} {W : World} (h : F168 g0 g1 Q (fun _ _ => False) W) : Gives Tryz.prog 168 #[.agg g0, .agg g1] W Q := fn_of_vc (plan := []) mixed Tryz.func168 F168_ok (by rw [F168_eq]; exact h)
end Go.Proofs.YtngecegnlhmnlaaGreatDoor.Fs
namespace Go.Proofs.YtngecegnlhmnlaaGreatDoor.Fo
open Go Go.RowKit Go.Vc Go.Proofs.YtngecegnlhmnlaaGreatDoor.Fs
def text (a : Nat) : List UInt8 := jn 46 ((oct4 a).map dd)
theorem itoa_dd {n : Nat} (h : n < 1000) : Lib.itoa (n : Int) = dd n := by
  unfold Lib.itoa
  rw [if_neg (by omega), Int.toNat_natCast, dd_eq h]
theorem dd_len (m : Nat) : (dd m).length ≤ 3 := by
  unfold dd
  split
  · simp
  · split <;> simp
theorem oct4_lt (a : Nat) : ∀ n ∈ oct4 a, n < 256 := fun n hn => by
  simp only [oct4, List.mem_cons, List.not_mem_nil, or_false] at hn
  omega
theorem bs_app (l m : List UInt8) : bs l ++ bs m = bs (l ++ m) := by
  apply ByteArray.ext
  rw [ByteArray.data_append]
  simp
theorem bs_list (l : List UInt8) : (bs l).data.toList = l := by simp
theorem bs_size (l : List UInt8) : (bs l).size = l.length := by simp [ByteArray.size]
theorem text_len (a : Nat) : (text a).length ≤ 15 := by
  unfold text oct4
  simp only [List.map_cons, List.map_nil, jn, List.length_append, List.length_cons]
  have h1 := dd_len (a / 16777216 % 256); have h2 := dd_len (a / 65536 % 256); have h3 := dd_len (a / 256 % 256); have h4 := dd_len (a % 256)
  omega
theorem nsucc {n : Nat} (h : n < 9223372036854775807) : IntKind.i64.wrap ((n : Int) + 1) = ((n + 1 : Nat) : Int) := by rw [wrap_i64] <;> omega
theorem print_gives {W : World} (h : Vr W) (a : Nat) : Gives Tryz.prog 84 #[.int .u32 (a : Int)] W fun v W' => v = .string (bs (text a)) ∧ Below W.heap.size W W' := F84_fn (by
  unfold F84
  have hS := (Ow.start NoS W).nil 9 1 enStr
  refine hS.callv (bytes_gives a W) fun W1 hS => ?_
  refine Lp.of (fun s : Nat × Option Addr × Nat => [.slice s.2.1 (((oct4 a).take s.1).map fun n => bs (dd n)).length s.2.2, .int .i64 (s.1 : Int)]) (fun s W' => s.1 ≤ 4 ∧ Ow NoS W W' [.sl 9 1 enStr (.slice s.2.1 (((oct4 a).take s.1).map fun n => bs (dd n)).length s.2.2) (((oct4 a).take s.1).map fun n => bs (dd n))]) (fun s => 4 - s.1) (0, none, 0) rfl ⟨Nat.zero_le _, hS⟩ ?_
  rintro ⟨j, aj, cj⟩ W2 k ⟨hj, hS⟩ hk
  dsimp only at hj hS hk ⊢
  refine AsL.mk rfl (AsI.mk (If.dec (fun hlt => ?_) fun hge => ?_))
  · have hlt' : j < (oct4 a).length := by show j < 4; have : (j : Int) < 4 := hlt; omega
    have hj4 : j < 4 := hlt'
    have htk : (oct4 a).take (j + 1) = (oct4 a).take j ++ [(oct4 a)[j]] := List.take_succ_eq_append_getElem hlt'
    have hmem := List.getElem_mem hlt'
    have hge : (enB (oct4 a))[j]? = some (.int .u8 ((oct4 a)[j] : Int)) := by unfold enB; rw [List.getElem?_map, List.getElem?_eq_getElem hlt']; rfl
    generalize (oct4 a)[j] = n at htk hmem hge
    have hn := oct4_lt a n hmem
    refine ⟨by omega, by omega, ?_⟩
    rw [Int.toNat_natCast]
    dsimp only
    rw [Nat.mul_one]
    refine ⟨_, by simpa using hge, AsI.mk ?_⟩
    rw [wrap_i64 (by omega) (by omega)]
    refine hS.callv (itoa_gives (h.bel hS.bel) (n := (n : Int)) (by omega) (by omega)) fun W3 hS => AsS.mk ?_
    rw [itoa_dd (by omega)]
    refine hS.news (cs := enStr (bs (dd n))) ⟨rfl, by decide, trivial⟩ (by kernel_rfl) fun b15 W4 hS => ?_
    have hlen : (((oct4 a).take j).map fun n => bs (dd n)).length ≤ 4 := by rw [List.length_map, List.length_take]; omega
    refine hS.app1 elStr 1 0 rfl rfl (by omega) fun a1 c1 W5 hS => AsL.mk rfl ?_
    have ef : ((oct4 a).take (j + 1)).map (fun n => bs (dd n)) = ((oct4 a).take j).map (fun n => bs (dd n)) ++ [bs (dd n)] := by rw [htk, List.map_append]; rfl
    rw [nsucc (by omega)]
    refine Eq.mp ?_ (hk (j + 1, a1, c1) W5 ⟨by dsimp only; omega, by dsimp only; rw [ef]; exact hS.pick [1] (by decide) rfl⟩ (by dsimp only; omega))
    dsimp only; rw [ef]
  · have hge' : ¬ (j : Int) < 4 := hge
    have : (oct4 a).take j = oct4 a := List.take_of_length_le (by show 4 ≤ j; omega)
    rw [this] at hS ⊢
    have e : (((oct4 a).map fun n => bs (dd n)).map (·.data.toList)) = (oct4 a).map dd := by
      rw [List.map_map]; exact List.map_congr_left fun n _ => bs_list (dd n)
    refine hS.callv (join_gives (hS.get 0 rfl) (by simp [oct4]) (by rw [e]; have := text_len a; unfold text at this; omega)) fun W3 hS => AsS.mk ⟨?_, hS.bel⟩
    rw [e]; rfl)
def runD : Nat → List UInt8 → Nat → Option (List UInt8)
  | 0, _, _ => none
  | f + 1, s, m => if m > 0 ∨ s = [] then runD f (UInt8.ofNat (48 + m % 10) :: s) (m / 10) else some s
theorem run_table : ((List.range 256).all fun n => decide (runD 5 [] n = some (dd n))) = true := by kernel_rfl
theorem dig_table : ((List.range 10).all fun d => decide ((ByteArray.extract (⟨#[48, 49, 50, 51, 52, 53, 54, 55, 56, 57]⟩) d (d + 1)).data.toList = [UInt8.ofNat (48 + d)])) = true := by kernel_rfl
theorem digits_gives {n : Nat} (hn : n < 256) (W : World) : Gives Tryz.prog 144 #[.int .u32 (n : Int)] W fun v W' => v = .string (bs (dd n)) ∧ Below W.heap.size W W' := F144_fn (by
  unfold F144
  have hr := of_decide_eq_true (List.all_eq_true.1 run_table n (List.mem_range.2 hn))
  refine Lp.of (fun s : Nat × List UInt8 × Nat => [.string (bs s.2.1), .int .u32 (s.2.2 : Int)]) (fun s W' => runD s.1 s.2.1 s.2.2 = some (dd n) ∧ s.2.2 < 256 ∧ s.2.1.length + s.1 ≤ 5 ∧ W' = W) (fun s => s.1) (5, [], n) rfl ⟨hr, hn, by simp, rfl⟩ ?_
  rintro ⟨f, s, m⟩ W1 k ⟨hr, hm, hl, rfl⟩ hk
  dsimp only at hr hm hl hk ⊢
  cases f with
  | zero => cases hr
  | succ f =>
    rw [runD] at hr
    refine AsS.mk (AsI.mk (Join.use fun J hJ => ?_))
    have go : ∀ b, (b = true ↔ m > 0 ∨ s = []) → J b W1 := fun b hb => by
      rw [hJ]; dsimp only
      refine If.split (fun h => ?_) fun h => ?_
      · rw [if_pos (hb.1 h)] at hr
        have e1 : (m : Int).tmod 10 = ((m % 10 : Nat) : Int) := rfl
        have e2 : (m : Int).tdiv 10 = ((m / 10 : Nat) : Int) := rfl
        have hd := of_decide_eq_true (List.all_eq_true.1 dig_table (m % 10) (List.mem_range.2 (by omega)))
        have hx : ByteArray.extract (⟨#[48, 49, 50, 51, 52, 53, 54, 55, 56, 57]⟩) (m % 10) (m % 10 + 1) = bs [UInt8.ofNat (48 + m % 10)] := by rw [← hd, bs_data]
        have w1 : IntKind.u32.wrap (((m % 10 : Nat) : Int) + 1) = ((m % 10 + 1 : Nat) : Int) := by
          have := w32 (m % 10 + 1)
          rw [show (m % 10 + 1) % 4294967296 = m % 10 + 1 from Nat.mod_eq_of_lt (by omega)] at this
          exact this
        have w2 : IntKind.u32.wrap ((m / 10 : Nat) : Int) = ((m / 10 : Nat) : Int) := by rw [w32, Nat.mod_eq_of_lt (by omega)]
        rw [e1, e2, w1, w2]
        refine ⟨by decide, by decide, SlB.mk (m % 10) (m % 10 + 1) rfl rfl (by omega) (show m % 10 + 1 ≤ 10 by omega) ?_⟩
        rw [hx, bs_app]
        refine ⟨by rw [bs_size, bs_size]; have : IntKind.i64.max = 9223372036854775807 := by kernel_rfl
                   rw [this]; simp only [List.length_singleton]; omega, by decide, ?_⟩
        exact hk (f, [UInt8.ofNat (48 + m % 10)] ++ s, m / 10) W1 ⟨hr, by dsimp only; omega, by simp; omega, rfl⟩ (by dsimp only; omega)
      · rw [if_neg (fun hc => by rw [hb.2 hc] at h; cases h)] at hr
        cases hr
        exact ⟨rfl, Below.refl _ _⟩
    refine If.dec (fun h => go true ⟨fun _ => .inl (by omega), fun _ => rfl⟩) fun h => go _ ?_
    rw [str_beq, bs_list, decide_eq_true_eq]
    have h0 : ¬ m > 0 := by omega
    exact ⟨fun h1 => .inr h1, fun h1 => h1.resolve_left h0⟩)
theorem rprint_gives {a : Nat} (ha : a < 4294967296) (W : World) : Gives Tryz.prog 88 #[.int .u32 (a : Int)] W fun v W' => v = .string (bs (text a)) ∧ Below W.heap.size W W' := F88_fn (by
  unfold F88
  have hS := Ow.start NoS W
  have w : ∀ k : Nat, 0 < k → IntKind.u32.wrap ((a : Int).tdiv (k : Int)) = ((a / k : Nat) : Int) := fun k hk => by
    have e : (a : Int).tdiv (k : Int) = ((a / k : Nat) : Int) := rfl
    have := Nat.div_le_self a k
    rw [e, w32, Nat.mod_eq_of_lt (by omega)]
  have w1 : IntKind.u32.wrap ((a : Int).tdiv 16777216) = ((a / 16777216 : Nat) : Int) := w 16777216 (by decide)
  have w2 : (IntKind.u32.wrap ((a : Int).tdiv 65536)).tmod 256 = ((a / 65536 % 256 : Nat) : Int) := by rw [show IntKind.u32.wrap ((a : Int).tdiv 65536) = ((a / 65536 : Nat) : Int) from w 65536 (by decide)]; rfl
  have w3 : (IntKind.u32.wrap ((a : Int).tdiv 256)).tmod 256 = ((a / 256 % 256 : Nat) : Int) := by rw [show IntKind.u32.wrap ((a : Int).tdiv 256) = ((a / 256 : Nat) : Int) from w 256 (by decide)]; rfl
  have w4 : (a : Int).tmod 256 = ((a % 256 : Nat) : Int) := rfl
  rw [w1, w2, w3, w4]
  have mx : IntKind.i64.max = 9223372036854775807 := by kernel_rfl
  have h1 := dd_len (a / 16777216); have h2 := dd_len (a / 65536 % 256); have h3 := dd_len (a / 256 % 256); have h4 := dd_len (a % 256)
  have pt : (⟨#[46]⟩ : ByteArray) = bs [46] := rfl
  rw [pt]
  refine ⟨by decide, hS.callv (digits_gives (by omega) W) fun W1 hS => AsS.mk ⟨by rw [bs_size, bs_size, mx]; simp only [List.length_singleton]; omega, by decide, by decide, ?_⟩⟩
  rw [bs_app]
  refine hS.callv (digits_gives (by omega) W1) fun W2 hS => AsS.mk ⟨by rw [bs_size, bs_size, mx]; simp only [List.length_append, List.length_singleton]; omega, ?_⟩
  rw [bs_app]
  refine ⟨by rw [bs_size, bs_size, mx]; simp only [List.length_append, List.length_singleton]; omega, by decide, by decide, ?_⟩
  rw [bs_app]
  refine hS.callv (digits_gives (by omega) W2) fun W3 hS => AsS.mk ⟨by rw [bs_size, bs_size, mx]; simp only [List.length_append, List.length_singleton]; omega, ?_⟩
  rw [bs_app]
  refine ⟨by rw [bs_size, bs_size, mx]; simp only [List.length_append, List.length_singleton]; omega, by decide, ?_⟩
  rw [bs_app]
  refine hS.callv (digits_gives (by omega) W3) fun W4 hS => AsS.mk ⟨by rw [bs_size, bs_size, mx]; simp only [List.length_append, List.length_singleton]; omega, ?_, hS.bel⟩
  rw [bs_app]
  congr 2
  unfold text oct4
  rw [Nat.mod_eq_of_lt (show a / 16777216 < 256 by omega)]
  simp [jn])
end Go.Proofs.YtngecegnlhmnlaaGreatDoor.Fo
namespace Go.Proofs.YtngecegnlhmnlaaGreatDoor.Si
open Go Go.RowKit Go.Vc Go.Proofs.YtngecegnlhmnlaaGreatDoor.Fs Go.Proofs.YtngecegnlhmnlaaGreatDoor.Fo
def halves (n : Nat) : Nat × Nat := (n / 18446744073709551616, n % 18446744073709551616)
theorem or16 (a b : Nat) (h : b < 65536) : a * 65536 ||| b = a * 65536 + b := by
  have e := Nat.shiftLeft_add_eq_or_of_lt (i := 16) (b := b) (by omega) a
  rw [Nat.shiftLeft_eq] at e
  exact e.symm
theorem halves_gen (L n x : Nat) (hx : x < 65536) :
    (n * 65536 + x) / (65536 * L) = n / (65536 * L) * 65536 + n % (65536 * L) / L ∧ (n * 65536 + x) % (65536 * L) = n % (65536 * L) % L * 65536 + x := by
  have s1 : (n * 65536 + x) / 65536 = n := by omega
  have s2 : (n * 65536 + x) % 65536 = x := by omega
  constructor
  · rw [← Nat.div_div_eq_div_mul, s1, Nat.mul_comm 65536 L, ← Nat.div_div_eq_div_mul, Nat.mod_mul_right_div_self]
    omega
  · rw [Nat.mod_mul, s1, s2, Nat.mod_mod_of_dvd _ (Nat.dvd_mul_left L 65536)]
    omega
theorem halves_step {n x : Nat} (hn : n / 18446744073709551616 < 281474976710656) (hx : x < 65536) :
    halves (n * 65536 + x) = (((halves n).1 * 65536 % 18446744073709551616 ||| (halves n).2 / 281474976710656) ||| 0, (halves n).2 * 65536 % 18446744073709551616 ||| x) := by
  obtain ⟨g1, g2⟩ := halves_gen 281474976710656 n x hx
  have k : (65536 * 281474976710656 : Nat) = 18446744073709551616 := by decide
  rw [k] at g1 g2
  have h2 : n % 18446744073709551616 / 281474976710656 < 65536 := Nat.div_lt_of_lt_mul (Nat.mod_lt _ (by decide))
  have e1 : n / 18446744073709551616 * 65536 % 18446744073709551616 = n / 18446744073709551616 * 65536 := Nat.mod_eq_of_lt (by omega)
  have e2 : n % 18446744073709551616 * 65536 % 18446744073709551616 = n % 18446744073709551616 % 281474976710656 * 65536 :=
    Nat.mul_mod_mul_right 65536 (n % 18446744073709551616) 281474976710656
  unfold halves
  dsimp only
  rw [e1, or16 _ _ h2, e2, or16 _ _ hx, Nat.or_zero, g1, g2]
theorem ofG_take {l : List Nat} {j : Nat} (h : j < l.length) : ofG (l.take (j + 1)) = ofG (l.take j) * 65536 + l[j] := by
  rw [List.take_succ_eq_append_getElem h, ofG_append]
  simp [ofG]
theorem six_of_gives (l : List Nat) (hl : l.length = 8) (hb : ∀ n ∈ l, n < 65536) (W : World) : Gives Tryz.prog 176 #[.agg (enG l).toArray] W fun v W' => v = .agg (enW (halves (ofG l))).toArray ∧ Below W.heap.size W W' := F176_fn (by
  unfold F176
  have hS := Ow.start NoS W
  have hen : (enG l).length = 8 := by unfold enG; rw [List.length_map, hl]
  refine hS.new fun b1 W1 hS => hS.new fun b2 W2 hS => hS.new fun b3 W3 hS => hS.ldw 2 rfl hen ?_
  have h0 : halves (ofG (l.take 0)) = (0, 0) := by simp [ofG, halves]
  refine Lp.of (fun j : Nat => [.int .i64 (j : Int)]) (fun j W' => j ≤ 8 ∧ Ow NoS W W' [.cl b3 (enW (halves (ofG (l.take j)))) 120, .cl b2 (enW (0, 0)) 120, .cl b1 (enG l) 168]) (fun j => 8 - j) 0 rfl ⟨by omega, by rw [h0]; exact hS⟩ ?_
  rintro j W4 k ⟨hj, hS⟩ hk
  refine AsI.mk (If.dec (fun hlt => ?_) fun hge => ?_)
  · have hlt' : j < 8 := by have : (j : Int) < 8 := hlt; omega
    have hjl : j < l.length := by omega
    have h2 := hb l[j] (List.getElem_mem hjl)
    have hge : (enG l)[j]? = some (.int .u16 (l[j] : Int)) := by unfold enG; rw [List.getElem?_map, List.getElem?_eq_getElem hjl]; rfl
    have hbd : ofG (l.take j) / 18446744073709551616 < 281474976710656 := by
      have h1 := ofG_bound (l.take j) fun n hn => hb n (List.mem_of_mem_take hn)
      have h3 : (l.take j).length ≤ 7 := by rw [List.length_take]; omega
      have h4 : 65536 ^ (l.take j).length ≤ 65536 ^ 7 := Nat.pow_le_pow_right (by decide) h3
      have h5 : (65536 ^ 7 : Nat) = 18446744073709551616 * 281474976710656 := by decide
      exact Nat.div_lt_of_lt_mul (by rw [← h5]; exact Nat.lt_of_lt_of_le h1 h4)
    refine ⟨by omega, by omega, ?_⟩
    rw [Int.toNat_natCast]
    dsimp only
    rw [Nat.mul_one]
    refine ⟨_, by simpa using hge, AsI.mk ?_⟩
    refine hS.ldw 0 rfl rfl ?_
    have hm : (halves (ofG (l.take j))).2 < 18446744073709551616 := Nat.mod_lt _ (by decide)
    refine hS.callv (left16_gives _ hm W4) fun W5 hS => ?_
    rw [w64, Nat.mod_eq_of_lt (show l[j] < 18446744073709551616 by omega)]
    refine hS.callv (wOf_gives _ W5) fun W6 hS => ?_
    refine hS.callv (wOr_gives (Nat.or_lt_two_pow (n := 64) (Nat.mod_lt _ (by decide)) (by omega)) (Nat.mod_lt _ (by decide)) (show 0 < 18446744073709551616 by decide) (show l[j] < 18446744073709551616 by omega) W6) fun W7 hS => ?_
    dsimp only
    rw [← halves_step hbd h2, ← ofG_take hjl]
    refine hS.stw 0 rfl (cs := enW (halves (ofG (l.take (j + 1))))) rfl rfl rfl fun W8 hS => ?_
    rw [nsucc (by omega)]
    exact hk (j + 1) W8 ⟨hlt', hS⟩ (by omega)
  · have hge' : ¬ (j : Int) < 8 := hge
    have e : l.take j = l := List.take_of_length_le (by omega)
    rw [e] at hS
    refine hS.ldw 0 rfl rfl (hS.stw 1 rfl (cs := enW (halves (ofG l))) rfl rfl rfl fun W5 hS => hS.ldw 1 rfl rfl ⟨rfl, hS.bel⟩))
end Go.Proofs.YtngecegnlhmnlaaGreatDoor.Si
namespace Go.Proofs.YtngecegnlhmnlaaGreatDoor.Si
open Go Go.RowKit Go.Vc Go.Proofs.YtngecegnlhmnlaaGreatDoor.Fs Go.Proofs.YtngecegnlhmnlaaGreatDoor.Fo
def d16 (n : Nat) : UInt8 := if n < 10 then UInt8.ofNat (48 + n) else UInt8.ofNat (87 + n)
def hx (n : Nat) : List UInt8 := if n < 16 then [d16 n] else if n < 256 then [d16 (n / 16), d16 (n % 16)] else if n < 4096 then [d16 (n / 256), d16 (n / 16 % 16), d16 (n % 16)] else [d16 (n / 4096), d16 (n / 256 % 16), d16 (n / 16 % 16), d16 (n % 16)]
def hv (c : UInt8) : Option Nat := if 48 ≤ c ∧ c ≤ 57 then some (c.toNat - 48) else if 97 ≤ c ∧ c ≤ 102 then some (c.toNat - 87) else if 65 ≤ c ∧ c ≤ 70 then some (c.toNat - 55) else none
def gv : List UInt8 → Nat → Option Nat
  | [], a => some a
  | c :: r, a => (hv c).bind fun d => gv r ((a * 16 + d) % 65536)
def grp (l : List UInt8) : Option Nat := if 1 ≤ l.length ∧ l.length ≤ 4 then gv l 0 else none
def cap (c : UInt8) : UInt8 := if 97 ≤ c ∧ c ≤ 102 then c - 32 else c
theorem hv_table : ((List.range 16).all fun d => decide (hv (d16 d) = some d) && decide (hv (cap (d16 d)) = some d) && decide (d16 d ≠ 58) && decide (cap (d16 d) ≠ 58)&& decide (d16 d ≠ 46) && decide (cap (d16 d) ≠ 46)) = true := by kernel_rfl
theorem hv_d16 {d : Nat} (h : d < 16) : hv (d16 d) = some d ∧ hv (cap (d16 d)) = some d ∧ d16 d ≠ 58 ∧ cap (d16 d) ≠ 58 ∧ d16 d ≠ 46 ∧ cap (d16 d) ≠ 46 := by
  have := List.all_eq_true.1 hv_table d (List.mem_range.2 h)
  simp only [Bool.and_eq_true, decide_eq_true_eq] at this
  obtain ⟨⟨⟨⟨⟨h1, h2⟩, h3⟩, h4⟩, h5⟩, h6⟩ := this
  exact ⟨h1, h2, h3, h4, h5, h6⟩
theorem grp_gen (t : UInt8 → UInt8) (ht : ∀ d, d < 16 → hv (t (d16 d)) = some d) {n : Nat} (h : n < 65536) : grp ((hx n).map t) = some n := by
  unfold hx
  split
  · rename_i h1
    simp only [List.map_cons, List.map_nil, grp, List.length_cons, List.length_nil, gv, ht n h1, Option.bind_some]
    rw [if_pos (by omega)]; congr 1; omega
  · split
    · simp only [List.map_cons, List.map_nil, grp, List.length_cons, List.length_nil, gv, ht (n / 16) (by omega), ht (n % 16) (by omega), Option.bind_some]
      rw [if_pos (by omega)]; congr 1; omega
    · split
      · simp only [List.map_cons, List.map_nil, grp, List.length_cons, List.length_nil, gv, ht (n / 256) (by omega), ht (n / 16 % 16) (by omega), ht (n % 16) (by omega), Option.bind_some]
        rw [if_pos (by omega)]; congr 1; omega
      · simp only [List.map_cons, List.map_nil, grp, List.length_cons, List.length_nil, gv, ht (n / 4096) (by omega), ht (n / 256 % 16) (by omega), ht (n / 16 % 16) (by omega), ht (n % 16) (by omega), Option.bind_some]
        rw [if_pos (by omega)]; congr 1; omega
theorem grp_hx {n : Nat} (h : n < 65536) : grp (hx n) = some n := by
  have := grp_gen id (fun _ hd => (hv_d16 hd).1) h
  rwa [List.map_id] at this
theorem hx_len (n : Nat) : 1 ≤ (hx n).length ∧ (hx n).length ≤ 4 := by
  unfold hx
  split
  · simp
  · split
    · simp
    · split <;> simp
end Go.Proofs.YtngecegnlhmnlaaGreatDoor.Si
namespace Go.Proofs.YtngecegnlhmnlaaGreatDoor.Fo
open Go Go.RowKit Go.Vc Go.Proofs.YtngecegnlhmnlaaGreatDoor
abbrev laid : List (String × DataW Unit) := Rows.textPartsRow.laid
theorem own : ownKnob Tryz.prog.godebug = none := by kernel_rfl
theorem laidOut : laidOutB Tryz.prog = true := by kernel_rfl
theorem star : "*" ++ "errors.errorString" = "*errors.errorString" := by decide
theorem rowErr (u : TypeId) (h : Tryz.prog.typeName? 3 u = some "*errors.errorString") : u = 267 :=
  typeName_ptr_named (nm := "errors.errorString") (by rw [star]; kernel_rfl) (by kernel_rfl) (by decide) u (by rw [star]; exact h)
theorem plainLaid (W : World) (h : laidMetH Tryz.prog laid W) : laidMet Tryz.prog laid W :=
  Eq.mp (MakeChecks.laidMetH_plain Tryz.prog laid W (by kernel_rfl)) h
theorem vr_of {W : World} (hs : W.ShapedOpen Tryz.prog) (h0 : laidMetH Tryz.prog laid W) : Vr W := by
  have h := plainLaid W h0
  have h3 := h.tail.tail
  have h5 := h3.tail.tail
  have h6 := h5.tail
  refine ⟨cell_of_shapedOpen_int (P := Tryz.prog) (g := 0) (t := 3) (zero := #[.int .i64 0]) hs (of_decide_eq_true (by kernel_rfl)) (by kernel_rfl) rfl (by kernel_rfl) (by kernel_rfl) Tryz.underlying3,
    Lib.tabIs_of_head (g := 3) (t := 255) (e := 25) (n := 20) (by kernel_rfl) (by kernel_rfl) Tryz.underlying255 Tryz.underlying25 (by kernel_rfl) (by kernel_rfl) h3, ?_, ?_⟩
  · obtain ⟨a, s, hv, _⟩ := laid_sentinel h6 (g := 4) (ti := 86) (by kernel_rfl) (by kernel_rfl) Tryz.underlying86 rowErr Tryz.underlying267 Tryz.underlying269 rfl rfl Tryz.underlying9 (by kernel_rfl) (by kernel_rfl)
    exact ⟨_, _, hv⟩
  · obtain ⟨a, s, hv, _⟩ := laid_sentinel h5 (g := 5) (ti := 86) (by kernel_rfl) (by kernel_rfl) Tryz.underlying86 rowErr Tryz.underlying267 Tryz.underlying269 rfl rfl Tryz.underlying9 (by kernel_rfl) (by kernel_rfl)
    exact ⟨_, _, hv⟩
end Go.Proofs.YtngecegnlhmnlaaGreatDoor.Fo
namespace Go.Proofs.YtngecegnlhmnlaaGreatDoor.Si
open Go Go.RowKit Go.Vc Go.Proofs.YtngecegnlhmnlaaGreatDoor Go.Proofs.YtngecegnlhmnlaaGreatDoor.Fs Go.Proofs.YtngecegnlhmnlaaGreatDoor.Fo
structure V6 (W : World) : Prop where
  vr : Vr W
  tab : W.cell? ⟨7, 15, none⟩ = some (.int .u8 4)
theorem V6.bel {W W' : World} (h : V6 W) (hb : Below W.heap.size W W') : V6 W' := ⟨h.vr.bel hb, cell_bel h.tab hb⟩
abbrev dbTab : List Int := [0, 1, 56, 2, 57, 49, 28, 3, 61, 58, 42, 50, 38, 29, 17, 4, 62, 47, 59, 36, 45, 43, 51, 22, 53, 39, 33, 30, 24, 18, 12, 5, 63, 55, 48, 27, 60, 41, 37, 16, 46, 35, 44, 21, 52, 32, 23, 11, 54, 26, 40, 15, 34, 20, 31, 10, 25, 14, 19, 9, 13, 8, 7, 6]
theorem v6_of {W : World} (hs : W.ShapedOpen Tryz.prog) (h0 : laidMetH Tryz.prog laid W) : V6 W := by
  have h := (plainLaid W h0).tail
  have ht : Lib.TabIs Tryz.prog W "math/bits.deBruijn64tab" .u8 dbTab := Lib.tabIs_of_head (g := 7) (t := 271) (e := 5) (n := 64) (by kernel_rfl) (by kernel_rfl) (by kernel_rfl) (by kernel_rfl) (by kernel_rfl) (by kernel_rfl) h
  exact ⟨vr_of hs h0, ht.cell (by kernel_rfl) 15 (by decide)⟩
end Go.Proofs.YtngecegnlhmnlaaGreatDoor.Si
namespace Go.Proofs.YtngecegnlhmnlaaGreatDoor.Si
open Go Go.RowKit Go.Vc Go.Proofs.YtngecegnlhmnlaaGreatDoor Go.Proofs.YtngecegnlhmnlaaGreatDoor.Fs Go.Proofs.YtngecegnlhmnlaaGreatDoor.Fo
theorem tz64_gives {W : World} (h : V6 W) : Gives Tryz.prog 245 #[.int .u64 16] W fun v W' => v = .int .i64 4 ∧ Below W.heap.size W W' := F245_fn (by
  unfold F245
  refine If.neg rfl ⟨by decide, ?_⟩
  have e : (Int.fdiv (IntKind.u64.wrap ((IntKind.u64.wrap ((((BitVec.ofInt (IntKind.u64).bits 16) &&& (BitVec.ofInt (IntKind.u64).bits (IntKind.u64.wrap (0 - 16)))).toNat : Int))) * 285870213051353865)) (2 ^ (min (Int.toNat 58) (IntKind.u64).bits))) = 15 := by kernel_rfl
  rw [e]
  exact ⟨by decide, by decide, _, h.tab, AsI.mk ⟨rfl, Below.refl _ _⟩⟩)
theorem tz_gives {W : World} (h : V6 W) : Gives Tryz.prog 240 #[.int .u64 16] W fun v W' => v = .int .i64 4 ∧ Below W.heap.size W W' := F240_fn (by
  unfold F240
  have hS := Ow.start NoS W
  exact hS.callv (tz64_gives h) fun W1 hS => AsI.mk ⟨rfl, hS.bel⟩)
end Go.Proofs.YtngecegnlhmnlaaGreatDoor.Si
namespace Go.Proofs.YtngecegnlhmnlaaGreatDoor.Si
open Go Go.RowKit Go.Vc Go.Proofs.YtngecegnlhmnlaaGreatDoor Go.Proofs.YtngecegnlhmnlaaGreatDoor.Fs Go.Proofs.YtngecegnlhmnlaaGreatDoor.Fo
def enU8 (l : List UInt8) : List Value := l.map fun c : UInt8 => Value.int .u8 (c.toNat : Int)
theorem enU8_len (l : List UInt8) : (enU8 l).length = l.length := List.length_map _
theorem back_of_row {W : World} {src dst e : TypeId} {p : Addr} {cap n : Nat} {l : List UInt8} {k : Value → Prop} (hs : Tryz.prog.underlying src = some (.slice e)) (he : Tryz.prog.underlying e = some (.int .u8)) (hd : Tryz.prog.underlying dst = some .string)
    (hr : Row W p (enU8 l)) (hn : n = l.length) (hk : k (.string (bs l))) : RunR Tryz.prog (convert src dst (.slice (some p) n cap)) W k := by
  subst hn
  refine ⟨_, fun w' hb => run_convert_bytes_back w' src dst e p cap l hs he hd fun j hj => ?_, hk⟩
  have := hr j (.int .u8 (l[j].toNat : Int)) (by unfold enU8; rw [List.getElem?_map, List.getElem?_eq_getElem hj]; rfl)
  exact cell_bel this hb
def runH : Nat → Nat → List UInt8 → List UInt8
  | 0, _, acc => acc
  | f + 1, u, acc => if 16 ≤ u then runH f (u / 16) (d16 (u % 16) :: acc) else d16 u :: acc
theorem runH_hx {n : Nat} (h : n < 65536) : runH 4 n [] = hx n := by
  unfold hx
  by_cases h1 : n < 16
  · rw [if_pos h1, runH, if_neg (by omega)]
  · rw [if_neg h1, runH, if_pos (by omega)]
    by_cases h2 : n < 256
    · rw [if_pos h2, runH, if_neg (by omega)]
    · rw [if_neg h2, runH, if_pos (by omega)]
      by_cases h3 : n < 4096
      · rw [if_pos h3, runH, if_neg (by omega), Nat.div_div_eq_div_mul]
      · rw [if_neg h3, runH, if_pos (by omega), runH, if_neg (by omega)]
        simp only [Nat.div_div_eq_div_mul]
abbrev digs36 : ByteArray := ⟨#[48, 49, 50, 51, 52, 53, 54, 55, 56, 57, 97, 98, 99, 100, 101, 102, 103, 104, 105, 106, 107, 108, 109, 110, 111, 112, 113, 114, 115, 116, 117, 118, 119, 120, 121, 122]⟩
theorem digs_table : ((List.range 16).all fun d => decide (digs36[d]? = some (d16 d))) = true := by kernel_rfl
theorem digs_at {d : Nat} (h : d < 16) : digs36[d]? = some (d16 d) := of_decide_eq_true (List.all_eq_true.1 digs_table d (List.mem_range.2 h))
theorem and15 (u : Nat) (h : u < 18446744073709551616) : IntKind.u64.wrap ((((BitVec.ofInt (IntKind.u64).bits (u : Int)) &&& (BitVec.ofInt (IntKind.u64).bits (IntKind.u64.wrap (16 - 1)))).toNat : Int)) = ((u % 16 : Nat) : Int) := by
  have e0 : IntKind.u64.wrap (16 - 1) = ((15 : Nat) : Int) := by kernel_rfl
  have b : (IntKind.u64).bits = 64 := rfl
  rw [e0, b, BitVec.toNat_and, BitVec.toNat_ofInt, BitVec.toNat_ofInt]
  have e1 : ((u : Int) % ((2 ^ 64 : Nat) : Int)).toNat = u := by omega
  have e2 : (((15 : Nat) : Int) % ((2 ^ 64 : Nat) : Int)).toNat = 15 := by decide
  rw [e1, e2]
  have e3 : u &&& 15 = u % 16 := Nat.and_two_pow_sub_one_eq_mod u 4
  rw [e3, w64]; omega
theorem fb_gives {W : World} (h : V6 W) {n : Nat} (hn : n < 65536) : Gives Tryz.prog 228 #[.slice none 0 0, .int .u64 (n : Int), .int .i64 16, .bool false, .bool false] W fun v W' => v = .tuple #[.slice none 0 0, .string (bs (hx n))] ∧ Below W.heap.size W W' := F228_fn (by
  unfold F228
  have hS := Ow.start NoS W
  refine Join.use fun J hJ => If.neg rfl ?_
  rw [hJ]; dsimp only
  refine Join.use fun J1 hJ1 => If.neg rfl ?_
  rw [hJ1]; dsimp only
  refine Join.use fun J2 hJ2 => If.neg rfl ?_
  rw [hJ2]; dsimp only
  refine hS.new fun q W1 hS => ?_
  refine Join.use fun J3 hJ3 => If.neg rfl ?_
  rw [hJ3]; dsimp only
  refine hS.callv (show Gives _ _ _ W1 _ from Calls.mono (pow2_gives W1) fun e w' ⟨v, he, hv, hw⟩ => ⟨v, he, hv, hw ▸ Below.refl _ _⟩) fun W2 hS => AsB.mk (Join.use fun J4 hJ4 => If.pos rfl ?_)
  refine hS.callv (tz_gives (h.bel hS.bel)) fun W3 hS => AsI.mk ?_
  refine Lp.of (fun s : List UInt8 × Nat => [.int .i64 ((65 - s.1.length : Nat) : Int), .int .u64 (s.2 : Int)]) (fun s W' => s.1.length ≤ 3 ∧ s.2 < 16 ^ (4 - s.1.length) ∧ runH (4 - s.1.length) s.2 s.1 = hx n ∧ Ow NoS W W' [.cl q (enU8 (List.replicate (65 - s.1.length) 0 ++ s.1)) 256]) (fun s => 4 - s.1.length) ([], n) rfl ⟨Nat.zero_le _, hn, runH_hx hn, by exact hS⟩ ?_
  rintro ⟨acc, u⟩ W4 k ⟨hl, hu, hr, hS⟩ hk
  dsimp only at hl hu hr hS hk ⊢
  have hu64 : u < 65536 := Nat.lt_of_lt_of_le hu (by
    have : 16 ^ (4 - acc.length) ≤ 16 ^ 4 := Nat.pow_le_pow_right (by decide) (by omega)
    exact this)
  obtain ⟨f, hf⟩ : ∃ f, 4 - acc.length = f + 1 := ⟨3 - acc.length, by omega⟩
  rw [hf, runH] at hr
  have e16 : IntKind.u64.wrap 16 = 16 := by kernel_rfl
  have hi : IntKind.i64.wrap (((65 - acc.length : Nat) : Int) - 1) = ((64 - acc.length : Nat) : Int) := by rw [wrap_i64 (by omega) (by omega)]; omega
  have set' : ∀ c : UInt8, (enU8 (List.replicate (65 - acc.length) 0 ++ acc)).set (64 - acc.length) (.int .u8 (c.toNat : Int)) = enU8 (List.replicate (65 - (c :: acc).length) 0 ++ c :: acc) := fun c => by
    have e1 : 65 - acc.length = (64 - acc.length) + 1 := by omega
    have e2 : 65 - (c :: acc).length = 64 - acc.length := by rw [List.length_cons]; omega
    rw [e1, e2, List.replicate_succ', List.append_assoc]
    unfold enU8
    rw [List.map_append, List.map_append, List.set_append_right _ _ (by simp)]
    simp
  refine AsI.mk (AsI.mk ?_)
  rw [e16]
  refine If.dec (fun hge => ?_) fun hlt => ?_
  · have hge' : 16 ≤ u := by omega
    rw [if_pos hge'] at hr
    rw [and15 u (by omega), hi]
    refine ⟨d16 (u % 16), by omega, by rw [Int.toNat_natCast]; exact digs_at (by omega), IdxA.to rfl (by omega) ?_⟩
    rw [Nat.mul_one]
    refine hS.st1 0 rfl _ (set' _) rfl rfl (by rw [enU8_len]; simp; omega) fun W5 hS => ⟨by decide, ?_⟩
    have e4 : (2 ^ (min (Int.toNat (IntKind.u64.wrap 4)) (IntKind.u64).bits) : Int) = ((16 : Nat) : Int) := by kernel_rfl
    rw [e4, fd _ _ (by decide)]
    have hpow : u / 16 < 16 ^ f := by rw [hf, Nat.pow_succ] at hu; omega
    have hne : f ≠ 0 := by rintro rfl; simp at hpow; omega
    have hl1 : (d16 (u % 16) :: acc).length = acc.length + 1 := rfl
    have hf1 : 4 - (d16 (u % 16) :: acc).length = f := by rw [hl1]; omega
    refine Eq.mp ?_ (hk (d16 (u % 16) :: acc, u / 16) W5 ⟨by dsimp only; rw [hl1]; omega, by dsimp only; rw [hf1]; exact hpow, by dsimp only; rw [hf1]; exact hr, hS⟩ (by dsimp only; omega))
    rw [hl1, show 65 - (acc.length + 1) = 64 - acc.length by omega]
  · have hlt' : ¬ 16 ≤ u := by omega
    rw [if_neg hlt'] at hr
    rw [hi]
    refine ⟨d16 u, by omega, by rw [Int.toNat_natCast]; exact digs_at (by omega), IdxA.to rfl (by omega) ?_⟩
    rw [Nat.mul_one]
    refine hS.st1 0 rfl _ (set' _) rfl rfl (by rw [enU8_len]; simp; omega) fun W5 hS => ?_
    rw [hJ4]; dsimp only
    refine Join.use fun J5 hJ5 => If.neg rfl ?_
    rw [hJ5]; dsimp only
    refine If.neg rfl (SlB.mk (64 - acc.length) 65 rfl rfl (by omega) (by omega) ?_)
    rw [if_neg (by omega)]
    have hrow : Row W5 (Addr.add ⟨q, 0, none⟩ ((64 - acc.length) * 1)) (enU8 (hx n)) := by
      have h0 : W5.heap[q]? = some (.cells (enU8 (List.replicate (65 - (d16 u :: acc).length) 0 ++ d16 u :: acc)).toArray 256 (0, 0)) := hS.get 0 rfl
      have h1 := row_sub (cells_row h0) ((64 - acc.length) * 1) (hx n).length
      rw [← hr] at h1 ⊢
      unfold enU8 at h1 ⊢
      rw [show 65 - (d16 u :: acc).length = 64 - acc.length by rw [List.length_cons]; omega, List.map_append, List.drop_append_of_le_length (by simp)] at h1
      simpa [List.take_of_length_le] using h1
    refine back_of_row (e := 5) (l := hx n) (by kernel_rfl) (by kernel_rfl) (by kernel_rfl) hrow (by rw [← hr, List.length_cons]; omega) (AsS.mk ⟨rfl, hS.bel⟩))
theorem fu_gives {W : World} (h : V6 W) {n : Nat} (hn : n < 65536) : Gives Tryz.prog 187 #[.int .u64 (n : Int), .int .i64 16] W fun v W' => v = .string (bs (hx n)) ∧ Below W.heap.size W W' := F187_fn (by
  unfold F187
  have hS := Ow.start NoS W
  refine hS.callv (v := .string (bs (hx n))) (F213_fn (by
    unfold F213
    have hS := Ow.start NoS W
    exact If.neg rfl (hS.callv (fb_gives h hn) fun W1 hS => AsT2.mk (AsL.mk rfl (AsS.mk ⟨rfl, hS.bel⟩))))) fun W1 hS => AsS.mk ⟨rfl, hS.bel⟩)
end Go.Proofs.YtngecegnlhmnlaaGreatDoor.Si
namespace Go.Proofs.YtngecegnlhmnlaaGreatDoor.Fo
open Go Go.RowKit Go.Vc Go.Proofs.YtngecegnlhmnlaaGreatDoor.Fs
def octs : List (List UInt8) → Option (List Nat)
  | [] => some []
  | x :: r => (octOf x).bind fun n => (octs r).map fun l => n :: l
theorem octs_app (x : List UInt8) : ∀ l, octs (l ++ [x]) = (octs l).bind fun os => (octOf x).map fun n => os ++ [n]
  | [] => by
    simp only [List.nil_append, octs]
    cases octOf x <;> rfl
  | y :: l => by
    rw [List.cons_append, octs, octs, octs_app x l]
    cases octOf y <;> cases octs l <;> cases octOf x <;> rfl
theorem octs_none {x : List UInt8} : ∀ {l : List (List UInt8)}, x ∈ l → octOf x = none → octs l = none
  | y :: l, h, hx => by
    rcases List.mem_cons.1 h with rfl | h
    · rw [octs, hx]; rfl
    · rw [octs, octs_none h hx]; cases octOf y <;> rfl
theorem octs_len : ∀ {l : List (List UInt8)} {os : List Nat}, octs l = some os → os.length = l.length ∧ ∀ n ∈ os, n < 256
  | [], os, h => by cases h; exact ⟨rfl, fun n hn => by cases hn⟩
  | x :: l, os, h => by
    rw [octs] at h
    cases hx : octOf x with
    | none => rw [hx] at h; cases h
    | some n =>
      cases hl : octs l with
      | none => rw [hx, hl] at h; cases h
      | some os' =>
        rw [hx, hl] at h; cases h
        obtain ⟨h1, h2⟩ := octs_len hl
        refine ⟨by simp [h1], fun m hm => ?_⟩
        rcases List.mem_cons.1 hm with rfl | hm
        · exact (octOf_some.1 hx).1
        · exact h2 m hm
def addrOf (l : List UInt8) : Option Nat := if (spl 46 l).length = 4 then (octs (spl 46 l)).map ofB else none
theorem dd_pt {m : Nat} (h : m < 256) : (46 : UInt8) ∉ dd m := by
  have ht : ((List.range 256).all fun m => !(dd m).contains 46) = true := by kernel_rfl
  have := List.all_eq_true.1 ht m (List.mem_range.2 h)
  simpa using this
theorem octOf_dd {m : Nat} (h : m < 256) : octOf (dd m) = some m := octOf_some.2 ⟨h, rfl⟩
theorem spl_text (a : Nat) : spl 46 (text a) = (oct4 a).map dd := by
  unfold text oct4
  simp only [List.map_cons, List.map_nil, jn]
  rw [spl_hit 46 _ _ (dd_pt (by omega)), spl_hit 46 _ _ (dd_pt (by omega)), spl_hit 46 _ _ (dd_pt (by omega)), spl_miss 46 _ (dd_pt (by omega))]
theorem addr_text {a : Nat} (h : a < 4294967296) : addrOf (text a) = some a := by
  unfold addrOf
  rw [spl_text, if_pos (by simp [oct4])]
  have : octs ((oct4 a).map dd) = some (oct4 a) := by
    unfold oct4
    simp only [List.map_cons, List.map_nil, octs]
    rw [octOf_dd (by omega), octOf_dd (by omega), octOf_dd (by omega), octOf_dd (by omega)]; rfl
  rw [this, Option.map_some, ofB_oct4 h]
theorem text_addr {l : List UInt8} {a : Nat} (h : addrOf l = some a) : a < 4294967296 ∧ text a = l := by
  unfold addrOf at h
  split at h
  · rename_i h4
    obtain ⟨os, ho, rfl⟩ := Option.map_eq_some_iff.1 h
    obtain ⟨h1, h2⟩ := octs_len ho
    have hj := jn_spl 46 l
    generalize spl 46 l = ps at *
    match ps, os, h4, h1 with
    | [p0, p1, p2, p3], [n0, n1, n2, n3], _, _ =>
      have e : (octOf p0 = some n0 ∧ octOf p1 = some n1) ∧ octOf p2 = some n2 ∧ octOf p3 = some n3 := by
        simp only [octs] at ho
        cases e0 : octOf p0 <;> cases e1 : octOf p1 <;> cases e2 : octOf p2 <;> cases e3 : octOf p3 <;> rw [e0, e1, e2, e3] at ho <;> cases ho
        exact ⟨⟨rfl, rfl⟩, rfl, rfl⟩
      obtain ⟨⟨e0, e1⟩, e2, e3⟩ := e
      obtain ⟨b0, d0⟩ := octOf_some.1 e0; obtain ⟨b1, d1⟩ := octOf_some.1 e1; obtain ⟨b2, d2⟩ := octOf_some.1 e2; obtain ⟨b3, d3⟩ := octOf_some.1 e3
      have hv : ofB [n0, n1, n2, n3] = ((n0 * 256 + n1) * 256 + n2) * 256 + n3 := by simp [ofB]
      refine ⟨by rw [hv]; omega, ?_⟩
      rw [← hj]
      have ho4 : oct4 (ofB [n0, n1, n2, n3]) = [n0, n1, n2, n3] := by
        rw [hv]; unfold oct4
        rw [show (((n0 * 256 + n1) * 256 + n2) * 256 + n3) / 16777216 % 256 = n0 by omega, show (((n0 * 256 + n1) * 256 + n2) * 256 + n3) / 65536 % 256 = n1 by omega, show (((n0 * 256 + n1) * 256 + n2) * 256 + n3) / 256 % 256 = n2 by omega, show (((n0 * 256 + n1) * 256 + n2) * 256 + n3) % 256 = n3 by omega]
      unfold text
      rw [ho4, ← d0, ← d1, ← d2, ← d3]; rfl
  · cases h
def pa : List UInt8 → Nat → Nat → Option (Nat × Nat)
  | [], n, lg => some (n, lg)
  | c :: r, n, lg => if c.toNat < 48 ∨ 57 < c.toNat ∨ (0 < lg ∧ n = 0) ∨ 2 < lg then none else if 255 < 10 * n + (c.toNat - 48) then none else pa r (10 * n + (c.toNat - 48)) (lg + 1)
def auto : List UInt8 → Nat → Nat → Nat → Nat → Option Nat
  | [], a, n, p, lg => if p ≠ 3 ∨ lg = 0 then none else some (256 * a + n)
  | c :: r, a, n, p, lg => if c.toNat = 46 then (if lg = 0 then none else auto r (256 * a + n) 0 (p + 1) 0) else
      if c.toNat < 48 ∨ 57 < c.toNat ∨ (0 < lg ∧ n = 0) ∨ 2 < lg ∨ 3 < p then none else if 255 < 10 * n + (c.toNat - 48) then none else auto r a (10 * n + (c.toNat - 48)) p (lg + 1)
theorem c46 {c : UInt8} : c.toNat = 46 ↔ c = 46 := ⟨fun h => UInt8.toNat_inj.1 h, fun h => by subst h; rfl⟩
theorem auto_part (t : List UInt8) (a p : Nat) (hp : p ≤ 3) : ∀ (x : List UInt8) (n lg : Nat), (46 : UInt8) ∉ x → auto (x ++ t) a n p lg = (pa x n lg).bind fun r => auto t a r.1 p r.2
  | [], n, lg, _ => rfl
  | c :: x, n, lg, h => by
    have hc : ¬ c.toNat = 46 := fun e => h (c46.1 e ▸ List.mem_cons_self)
    have ih := fun n lg => auto_part t a p hp x n lg fun hx => h (List.mem_cons_of_mem _ hx)
    rw [List.cons_append, auto, pa, if_neg hc]
    by_cases h1 : c.toNat < 48 ∨ 57 < c.toNat ∨ (0 < lg ∧ n = 0) ∨ 2 < lg
    · rw [if_pos h1, if_pos (by omega)]; rfl
    · rw [if_neg h1, if_neg (by omega)]
      split
      · rfl
      · exact ih _ _
theorem pa_table : ((List.range 256).all fun m => decide (pa (dd m) 0 0 = some (m, (dd m).length))) = true := by kernel_rfl
theorem u8_of {c : UInt8} {k : Nat} (h : c.toNat = k) : UInt8.ofNat k = c := by rw [← h]; exact UInt8.ofNat_toNat
theorem pa_none : ∀ (x : List UInt8), (∀ m, m < 256 → dd m ≠ x) → (pa x 0 0).bind (fun r => if r.2 = 0 then none else some r.1) = none
  | [], _ => rfl
  | [c], no => by
    rw [pa]
    by_cases h1 : c.toNat < 48 ∨ 57 < c.toNat ∨ (0 < 0 ∧ 0 = 0) ∨ 2 < 0
    · rw [if_pos h1]; rfl
    · exfalso
      refine no (c.toNat - 48) (by omega) ?_
      unfold dd
      rw [if_pos (by omega), u8_of (c := c) (by omega)]
  | [c, d], no => by
    rw [pa]
    by_cases h1 : c.toNat < 48 ∨ 57 < c.toNat ∨ (0 < 0 ∧ 0 = 0) ∨ 2 < 0
    · rw [if_pos h1]; rfl
    · rw [if_neg h1, if_neg (by omega), pa]
      by_cases h2 : d.toNat < 48 ∨ 57 < d.toNat ∨ (0 < 0 + 1 ∧ 10 * 0 + (c.toNat - 48) = 0) ∨ 2 < 0 + 1
      · rw [if_pos h2]; rfl
      · exfalso
        refine no (10 * (c.toNat - 48) + (d.toNat - 48)) (by omega) ?_
        unfold dd
        rw [if_neg (by omega), if_pos (by omega), u8_of (c := c) (by omega), u8_of (c := d) (by omega)]
  | [c, d, e], no => by
    rw [pa]
    by_cases h1 : c.toNat < 48 ∨ 57 < c.toNat ∨ (0 < 0 ∧ 0 = 0) ∨ 2 < 0
    · rw [if_pos h1]; rfl
    · rw [if_neg h1, if_neg (by omega), pa]
      by_cases h2 : d.toNat < 48 ∨ 57 < d.toNat ∨ (0 < 0 + 1 ∧ 10 * 0 + (c.toNat - 48) = 0) ∨ 2 < 0 + 1
      · rw [if_pos h2]; rfl
      · rw [if_neg h2, if_neg (by omega), pa]
        by_cases h3 : e.toNat < 48 ∨ 57 < e.toNat ∨ (0 < 0 + 1 + 1 ∧ 10 * (10 * 0 + (c.toNat - 48)) + (d.toNat - 48) = 0) ∨ 2 < 0 + 1 + 1
        · rw [if_pos h3]; rfl
        · rw [if_neg h3]
          split
          · rfl
          · rename_i h4
            exfalso
            refine no (10 * (10 * (c.toNat - 48) + (d.toNat - 48)) + (e.toNat - 48)) (by omega) ?_
            unfold dd
            rw [if_neg (by omega), if_neg (by omega), u8_of (c := c) (by omega), u8_of (c := d) (by omega), u8_of (c := e) (by omega)]
  | c :: d :: e :: f :: r, _ => by
    have four : ∀ (n : Nat), pa (f :: r) n 3 = none := fun n => by rw [pa, if_pos (.inr (.inr (.inr (by decide))))]
    simp only [pa] at four ⊢
    split
    · rfl
    · split
      · rfl
      · split
        · rfl
        · split
          · rfl
          · split
            · rfl
            · split
              · rfl
              · rw [four]; rfl
theorem pa_oct (x : List UInt8) : (pa x 0 0).bind (fun r => if r.2 = 0 then none else some r.1) = octOf x := by
  cases ho : octOf x with
  | some m =>
    obtain ⟨h1, rfl⟩ := octOf_some.1 ho
    have ht := of_decide_eq_true (List.all_eq_true.1 pa_table m (List.mem_range.2 h1))
    have hl : (dd m).length ≠ 0 := by unfold dd; split <;> (try split) <;> simp
    rw [ht, Option.bind_some, if_neg hl]
  | none => exact pa_none x fun m h1 h2 => by rw [octOf_some.2 ⟨h1, h2⟩] at ho; cases ho
theorem octOf_nil : octOf [] = none := by kernel_rfl
theorem auto_hit {x : List UInt8} (hx : (46 : UInt8) ∉ x) (r : List UInt8) (a : Nat) {p : Nat} (hp : p ≤ 3) : auto (x ++ 46 :: r) a 0 p 0 = (octOf x).bind fun m => auto r (256 * a + m) 0 (p + 1) 0 := by
  rw [auto_part _ a p hp x 0 0 hx, ← pa_oct x]
  cases pa x 0 0 with
  | none => rfl
  | some q =>
    simp only [Option.bind_some]
    rw [auto, if_pos (by rfl)]
    split
    · rfl
    · rfl
theorem auto_late {l : List UInt8} (a : Nat) {p : Nat} (hp : 3 < p) : auto l a 0 p 0 = none := by
  cases l with
  | nil => rw [auto, if_pos (.inr rfl)]
  | cons c r =>
    rw [auto]
    split
    · rfl
    · rw [if_pos (by omega)]
theorem auto_last {x : List UInt8} (hx : (46 : UInt8) ∉ x) (a : Nat) {p : Nat} (hp : p ≤ 3) : auto x a 0 p 0 = if p = 3 then (octOf x).map fun m => 256 * a + m else none := by
  have h := auto_part [] a p hp x 0 0 hx
  rw [List.append_nil] at h
  rw [h, ← pa_oct x]
  cases pa x 0 0 with
  | none => simp
  | some q =>
    simp only [Option.bind_some]
    rw [auto]
    by_cases h1 : p = 3 <;> by_cases h2 : q.2 = 0 <;> simp [h1, h2]
end Go.Proofs.YtngecegnlhmnlaaGreatDoor.Fo
namespace Go.Proofs.YtngecegnlhmnlaaGreatDoor.Fo
open Go Go.RowKit Go.Vc Go.Proofs.YtngecegnlhmnlaaGreatDoor.Fs
theorem first_split {c : UInt8} : ∀ {l : List UInt8}, c ∈ l → ∃ x r, l = x ++ c :: r ∧ c ∉ x
  | b :: l, h => by
    by_cases hb : b = c
    · exact ⟨[], l, by rw [hb]; rfl, by simp⟩
    · have hl : c ∈ l := (List.mem_cons.1 h).resolve_left fun e => hb e.symm
      obtain ⟨x, r, e, hx⟩ := first_split hl
      refine ⟨b :: x, r, by rw [e]; rfl, fun hc => ?_⟩
      rcases List.mem_cons.1 hc with e1 | e1
      · exact hb e1.symm
      · exact hx e1
theorem auto_gen : ∀ (k : Nat) (l : List UInt8), l.length ≤ k → ∀ (a p : Nat), p ≤ 3 → auto l a 0 p 0 = if (spl 46 l).length = 4 - p then (octs (spl 46 l)).map fun os => os.foldl (fun a c => a * 256 + c) a else none := by
  intro k
  induction k with
  | zero =>
    intro l hl a p hp
    obtain rfl : l = [] := List.eq_nil_of_length_eq_zero (by omega)
    rw [auto, if_pos (.inr rfl)]
    have : octs (spl 46 []) = none := by simp only [spl, octs, octOf_nil]; rfl
    rw [this]; simp
  | succ k ih =>
    intro l hl a p hp
    by_cases hc : (46 : UInt8) ∈ l
    · obtain ⟨x, r, rfl, hx⟩ := first_split hc
      rw [auto_hit hx r a hp, spl_hit 46 x r hx, octs]
      have hne : 1 ≤ (spl 46 r).length := by
        have := spl_ne 46 r
        cases hs : spl 46 r with
        | nil => exact absurd hs this
        | cons _ _ => simp
      have hlr : r.length ≤ k := by simp at hl; omega
      by_cases h3 : p = 3
      · subst h3
        rw [if_neg (by simp only [List.length_cons]; omega)]
        cases octOf x with
        | none => rfl
        | some m => exact auto_late _ (by decide)
      · have e := fun m => ih r hlr (256 * a + m) (p + 1) (by omega)
        simp only [e]
        by_cases hl4 : (spl 46 r).length = 4 - (p + 1)
        · rw [if_pos (by simp only [List.length_cons]; omega)]
          cases octOf x with
          | none => rfl
          | some m =>
            simp only [Option.bind_some, if_pos hl4]
            cases octs (spl 46 r) with
            | none => rfl
            | some os => simp [Nat.mul_comm]
        · rw [if_neg (by simp only [List.length_cons]; omega)]
          cases octOf x with
          | none => rfl
          | some m => simp only [Option.bind_some, if_neg hl4]
    · rw [auto_last hc a hp, spl_miss 46 l hc, octs, octs]
      by_cases h3 : p = 3
      · subst h3
        rw [if_pos rfl, if_pos (by simp)]
        cases octOf l with
        | none => rfl
        | some m => simp [Nat.mul_comm]
      · rw [if_neg h3, if_neg (by simp; omega)]
theorem auto_addr (l : List UInt8) : auto l 0 0 0 0 = addrOf l := auto_gen l.length l (Nat.le_refl _) 0 0 (by decide)
theorem enB_set (os : List Nat) (n z : Nat) (zs : List Nat) : (enB (os ++ z :: zs)).set os.length (.int .u8 (n : Int)) = enB (os ++ [n] ++ zs) := by
  unfold enB
  rw [List.map_append, List.map_cons, List.append_assoc, List.map_append]
  rw [List.set_append_right _ _ (by simp)]
  simp
theorem parse_gives {W : World} (h : Vr W) (s : ByteArray) (hs : s.size ≤ 10000000) :
    Gives Tryz.prog 123 #[.string s] W fun v W' => v = .tuple #[.int .u32 (((addrOf s.data.toList).getD 0 : Nat) : Int), .int .i64 (if (addrOf s.data.toList).isSome then 0 else 3)] ∧ Below W.heap.size W W' := F123_fn (by
  unfold F123
  have hS := Ow.start NoS W
  refine hS.calls (split_gives h s (by omega)) fun a11 c11 W1 hS => AsL.mk rfl ?_
  have hpl : ((spl 46 s.data.toList).map bs).length = (spl 46 s.data.toList).length := List.length_map _
  unfold addrOf
  have hsz : ∀ x ∈ spl 46 s.data.toList, (bs x).size ≤ 281474976710656 := fun x hx => by
    have hj := jn_spl 46 s.data.toList
    have : ∀ (l : List (List UInt8)), x ∈ l → x.length ≤ (jn 46 l).length := fun l => by
      induction l with
      | nil => intro hx; cases hx
      | cons y r ih =>
        intro hx
        cases r with
        | nil => obtain rfl := List.mem_singleton.1 hx; exact Nat.le_refl _
        | cons z r =>
          rw [jn_cons 46 y (by simp), List.length_append, List.length_cons]
          rcases List.mem_cons.1 hx with rfl | hx
          · omega
          · have := ih hx; omega
    have h1 := this _ hx
    rw [hj] at h1
    rw [bs_size]
    have : s.data.toList.length = s.size := Array.length_toList
    omega
  generalize spl 46 s.data.toList = ps at *
  refine If.bne (fun hne => ⟨?_, hS.bel⟩) fun h4 => ?_
  · rw [if_neg (by omega)]; rfl
  have h4 : ps.length = 4 := by omega
  rw [if_pos h4]
  refine hS.new fun q5 W2 hS => ?_
  refine Lp.of (fun s : List Nat => [.int .u32 0, .int .i64 0, .int .i64 (s.length : Int)]) (fun os W' => os.length ≤ 4 ∧ octs (ps.take os.length) = some os ∧ Ow NoS W W' [.cl q5 (enB (os ++ List.replicate (4 - os.length) 0)) 165, .sl 9 1 enStr (.slice a11 (ps.map bs).length c11) (ps.map bs)]) (fun os => 4 - os.length) [] rfl ⟨by simp, by rw [List.length_nil, List.take_zero]; rfl, by rw [show enB ([] ++ List.replicate (4 - ([] : List Nat).length) 0) = [.int .u8 0, .int .u8 0, .int .u8 0, .int .u8 0] from rfl]; exact hS⟩ ?_
  rintro os W3 k ⟨hj, ho, hS⟩ hk
  refine AsI.mk (AsI.mk (AsI.mk (If.dec (fun hlt => ?_) fun hge => ?_)))
  · have hlt' : os.length < ps.length := by have : (os.length : Int) < ((ps.map bs).length : Int) := hlt; rw [List.length_map] at this; omega
    have rp := List.getElem?_eq_getElem hlt'
    have htk : ps.take (os.length + 1) = ps.take os.length ++ [ps[os.length]] := List.take_succ_eq_append_getElem hlt'
    generalize ps[os.length] = x at rp htk
    have hmem := List.mem_of_getElem? rp
    have rx : (ps.map bs)[os.length]? = some (bs x) := by rw [List.getElem?_map, rp]; rfl
    refine (hS.rd 1 rfl).get0 enStr_len rfl rfl rx (u := .string (bs x)) rfl (AsS.mk ?_)
    refine hS.call (octet_gives (h.bel hS.bel) (bs x) (hsz x hmem)) ?_
    rintro _ W4 ⟨y, rfl, hy⟩ hS
    rw [bs_list] at hy ⊢
    refine AsT2.mk (AsI.mk (AsB.mk ?_))
    cases hx : octOf x with
    | none =>
      refine If.pos rfl ⟨?_, hS.bel⟩
      rw [octs_none hmem hx]; rfl
    | some n =>
      obtain rfl := hy n hx
      refine If.neg rfl (IdxA.to rfl (show os.length < 4 by omega) ?_)
      rw [Nat.mul_one]
      obtain ⟨m, hm⟩ : ∃ m, 4 - os.length = m + 1 := ⟨3 - os.length, by omega⟩
      refine hS.st1 0 rfl (enB (os ++ [n] ++ List.replicate (4 - (os ++ [n]).length) 0)) ?_ rfl rfl (by unfold enB; simp; omega) fun W5 hS => ?_
      · rw [hm, List.replicate_succ, enB_set]
        rw [show 4 - (os ++ [n]).length = m by rw [List.length_append, List.length_singleton]; omega]
      · rw [nsucc (by omega)]
        have hl1 : (os ++ [n]).length = os.length + 1 := by simp
        refine Eq.mp ?_ (hk (os ++ [n]) W5 ⟨by omega, by rw [hl1, htk, octs_app, ho, hx]; rfl, hS⟩ (by omega))
        rw [hl1]
  · have hge' : ¬ (os.length : Int) < ((ps.map bs).length : Int) := hge
    rw [List.length_map] at hge'
    have hl4 : os.length = 4 := by omega
    have htk : ps.take os.length = ps := List.take_of_length_le (by omega)
    rw [htk] at ho
    rw [hl4, List.replicate_zero, List.append_nil] at hS
    refine hS.ldw 0 rfl (by unfold enB; rw [List.length_map]; exact hl4) (hS.callv (of_gives os hl4 (octs_len ho).2 W3) fun W4 hS => AsI.mk ⟨?_, hS.bel⟩)
    rw [ho]; rfl)
end Go.Proofs.YtngecegnlhmnlaaGreatDoor.Fo
namespace Go.Proofs.YtngecegnlhmnlaaGreatDoor.Si
open Go Go.RowKit Go.Vc Go.Proofs.YtngecegnlhmnlaaGreatDoor.Fs Go.Proofs.YtngecegnlhmnlaaGreatDoor.Fo
def cc : List UInt8 → Option (List UInt8 × List UInt8)
  | [] => none
  | [_] => none
  | c :: d :: r => if c = 58 ∧ d = 58 then some ([], r) else (cc (d :: r)).map fun p => (c :: p.1, p.2)
theorem cc_spec : ∀ {l a b : List UInt8}, cc l = some (a, b) → l = a ++ 58 :: 58 :: b
  | [], _, _, h => by cases h
  | [_], _, _, h => by cases h
  | c :: d :: r, a, b, h => by
    rw [cc] at h
    split at h
    · rename_i hc; cases h; rw [hc.1, hc.2]; rfl
    · cases hr : cc (d :: r) with
      | none => rw [hr] at h; cases h
      | some p =>
        rw [hr] at h
        obtain ⟨h1, h2⟩ := Prod.mk.inj (Option.some.inj h)
        subst h1; subst h2
        rw [cc_spec (a := p.1) (b := p.2) hr]; rfl
theorem index_cc : ∀ l : List UInt8, Lib.index l [58, 58] = match cc l with | some p => (p.1.length : Int) | none => -1
  | [] => rfl
  | [c] => by
    have h : List.isPrefixOf [(58 : UInt8), 58] [c] = false := by simp [List.isPrefixOf]
    rw [Lib.index, h]; rfl
  | c :: d :: r => by
    rw [Lib.index, index_cc (d :: r), cc]
    by_cases h : c = 58 ∧ d = 58
    · rw [if_pos h, if_pos (by rw [h.1, h.2]; simp [List.isPrefixOf])]; rfl
    · rw [if_neg h, if_neg (by
        simp only [List.isPrefixOf, Bool.and_true, Bool.and_eq_true, beq_iff_eq]
        exact fun e => h ⟨e.1.symm, e.2.symm⟩)]
      cases cc (d :: r) with
      | none => rfl
      | some p =>
        simp only [Option.map_some, List.length_cons]
        have h0 : ((p.1.length : Int) == -1) = false := by rw [beq_eq_false_iff_ne]; omega
        rw [h0]; simp
theorem cut_cc (l : List UInt8) : Lib.cut l [58, 58] = match cc l with | some p => (p.1, p.2, true) | none => (l, [], false) := by
  unfold Lib.cut
  rw [index_cc]
  cases h : cc l with
  | none => rfl
  | some p =>
    have e := cc_spec (a := p.1) (b := p.2) h
    dsimp only
    rw [if_pos (Int.natCast_nonneg _), Int.toNat_natCast]
    conv => lhs; rw [e]
    simp
theorem cc_free (t : List UInt8) : ∀ x : List UInt8, (58 : UInt8) ∉ x → cc (x ++ t) = (cc t).map fun p => (x ++ p.1, p.2)
  | [], _ => by
    rw [List.nil_append]
    cases cc t <;> rfl
  | c :: x, h => by
    have hc : c ≠ 58 := fun e => h (e ▸ List.mem_cons_self)
    have ih := cc_free t x fun hx => h (List.mem_cons_of_mem _ hx)
    rw [List.cons_append]
    cases hr : x ++ t with
    | nil =>
      rw [hr] at ih
      cases hq : cc t with
      | none => rfl
      | some p => rw [hq] at ih; cases ih
    | cons d r =>
      rw [hr] at ih
      rw [cc, if_neg fun e => hc e.1, ih]
      cases cc t <;> rfl
theorem cc_one {d : UInt8} (hd : d ≠ 58) (r : List UInt8) : cc (58 :: d :: r) = (cc (d :: r)).map fun p => (58 :: p.1, p.2) := by rw [cc, if_neg fun e => hd e.2]
theorem cc_jn (t : List UInt8) : ∀ xs : List (List UInt8), (∀ x ∈ xs, x ≠ [] ∧ (58 : UInt8) ∉ x) → cc (jn 58 xs ++ t) = (cc t).map fun p => (jn 58 xs ++ p.1, p.2)
  | [], _ => by cases h : cc t <;> simp [jn, h]
  | [x], h => cc_free t x (h x (List.mem_singleton.2 rfl)).2
  | x :: y :: r, h => by
    have ih := cc_jn t (y :: r) fun z hz => h z (List.mem_cons_of_mem _ hz)
    rw [jn_cons 58 x (by simp), List.append_assoc, cc_free _ x (h x (List.mem_cons_self ..)).2, List.cons_append]
    obtain ⟨hy, hy'⟩ := h y (by simp)
    obtain ⟨d, s, hds⟩ : ∃ d s, jn 58 (y :: r) ++ t = d :: s ∧ d ≠ 58 := by
      cases y with
      | nil => exact absurd rfl hy
      | cons d y =>
        have hd : d ≠ 58 := fun e => hy' (e ▸ List.mem_cons_self)
        cases r with
        | nil => exact ⟨d, y ++ t, rfl, hd⟩
        | cons z r => exact ⟨d, y ++ 58 :: jn 58 (z :: r) ++ t, by rw [jn_cons 58 _ (by simp)]; rfl, hd⟩
    rw [hds.1] at ih ⊢
    rw [cc_one hds.2, ih]
    cases cc t with
    | none => rfl
    | some p => simp
def rdL : List (List UInt8) → Bool → Option (List Nat)
  | [], _ => some []
  | [x], last => if last = true ∧ (addrOf x).isSome = true then some [(addrOf x).getD 0 / 65536, (addrOf x).getD 0 % 65536] else (grp x).map fun n => [n]
  | x :: y :: r, last => (grp x).bind fun n => (rdL (y :: r) last).map fun l => n :: l
def rd (l : List UInt8) (last : Bool) : Option (List Nat) := if l = [] then some [] else rdL (spl 58 l) last
def parse6 (l : List UInt8) : Option (List Nat) := match cc l with
  | some p => (rd p.1 false).bind fun x => (rd p.2 true).bind fun y => if x.length + y.length < 8 then some (x ++ List.replicate (8 - x.length - y.length) 0 ++ y) else none
  | none => (rd l true).bind fun x => if x.length = 8 then some x else none
theorem gv_lt : ∀ {l : List UInt8} {a n : Nat}, a < 65536 → gv l a = some n → n < 65536
  | [], a, n, h, e => by cases e; exact h
  | c :: r, a, n, h, e => by
    rw [gv] at e
    cases hc : hv c with
    | none => rw [hc] at e; cases e
    | some d => rw [hc] at e; exact gv_lt (Nat.mod_lt _ (by decide)) e
theorem grp_lt {l : List UInt8} {n : Nat} (h : grp l = some n) : n < 65536 := by
  unfold grp at h
  split at h
  · exact gv_lt (by decide) h
  · cases h
theorem rdL_lt : ∀ {l : List (List UInt8)} {last : Bool} {g : List Nat}, rdL l last = some g → ∀ n ∈ g, n < 65536
  | [], _, g, h => by cases h; intro n hn; cases hn
  | [x], last, g, h => by
    rw [rdL] at h
    split at h
    · rename_i hx
      cases ha : addrOf x with
      | none => rw [ha] at hx; cases hx.2
      | some a =>
        rw [ha] at h; cases h
        have := (text_addr ha).1
        intro n hn
        simp only [Option.getD_some, List.mem_cons, List.not_mem_nil, or_false] at hn
        omega
    · cases hg : grp x with
      | none => rw [hg] at h; cases h
      | some m => rw [hg] at h; cases h; intro n hn; rw [List.mem_singleton.1 hn]; exact grp_lt hg
  | x :: y :: r, last, g, h => by
    rw [rdL] at h
    cases hg : grp x with
    | none => rw [hg] at h; cases h
    | some m =>
      cases hr : rdL (y :: r) last with
      | none => rw [hg, hr] at h; cases h
      | some l =>
        rw [hg, hr] at h; cases h
        intro n hn
        rcases List.mem_cons.1 hn with rfl | hn
        · exact grp_lt hg
        · exact rdL_lt hr n hn
theorem rd_lt {l : List UInt8} {last : Bool} {g : List Nat} (h : rd l last = some g) : ∀ n ∈ g, n < 65536 := by
  unfold rd at h
  split at h
  · cases h; intro n hn; cases hn
  · exact rdL_lt h
theorem parse6_some {l : List UInt8} {g : List Nat} (h : parse6 l = some g) : g.length = 8 ∧ ∀ n ∈ g, n < 65536 := by
  unfold parse6 at h
  cases hc : cc l with
  | none =>
    rw [hc] at h
    cases hr : rd l true with
    | none => rw [hr] at h; cases h
    | some x =>
      simp only [hr, Option.bind_some] at h
      split at h
      · rename_i hl; cases h; exact ⟨hl, rd_lt hr⟩
      · cases h
  | some p =>
    rw [hc] at h
    cases hr : rd p.1 false with
    | none => simp only [hr] at h; cases h
    | some x =>
      cases hs : rd p.2 true with
      | none => simp only [hr, hs, Option.bind_some] at h; cases h
      | some y =>
        simp only [hr, hs, Option.bind_some] at h
        split at h
        · cases h
          refine ⟨by simp only [List.length_append, List.length_replicate]; omega, fun n hn => ?_⟩
          rcases List.mem_append.1 hn with hn | hn
          · rcases List.mem_append.1 hn with hn | hn
            · exact rd_lt hr n hn
            · rw [(List.mem_replicate.1 hn).2]; decide
          · exact rd_lt hs n hn
        · cases h
structure Hx (h : Nat → List UInt8) : Prop where
  val : ∀ n, n < 65536 → grp (h n) = some n
  ne : ∀ n, n < 65536 → h n ≠ []
  c58 : ∀ n, n < 65536 → (58 : UInt8) ∉ h n
  c46 : ∀ n, n < 65536 → (46 : UInt8) ∉ h n
theorem spl_jn (c : UInt8) : ∀ xs : List (List UInt8), xs ≠ [] → (∀ x ∈ xs, c ∉ x) → spl c (jn c xs) = xs
  | [], h, _ => absurd rfl h
  | [x], _, h => spl_miss c x (h x (List.mem_singleton.2 rfl))
  | x :: y :: r, _, h => by
    rw [jn_cons c x (by simp), spl_hit c _ _ (h x (List.mem_cons_self ..)), spl_jn c (y :: r) (by simp) fun z hz => h z (List.mem_cons_of_mem _ hz)]
theorem addr_no {x : List UInt8} (h : (46 : UInt8) ∉ x) : addrOf x = none := by
  unfold addrOf
  rw [spl_miss 46 x h, if_neg (by simp)]
theorem rdL_map {h : Nat → List UInt8} (H : Hx h) (last : Bool) : ∀ ms : List Nat, (∀ n ∈ ms, n < 65536) → rdL (ms.map h) last = some ms
  | [], _ => rfl
  | [n], hm => by
    have hn := hm n (List.mem_singleton.2 rfl)
    rw [List.map_cons, List.map_nil, rdL, addr_no (H.c46 n hn), if_neg (fun e => by cases e.2), H.val n hn]; rfl
  | n :: m :: r, hm => by
    have hn := hm n (List.mem_cons_self ..)
    have ih := rdL_map H last (m :: r) fun z hz => hm z (List.mem_cons_of_mem _ hz)
    rw [List.map_cons] at ih ⊢
    rw [List.map_cons, rdL, H.val n hn, ih]; rfl
theorem rd_jn {h : Nat → List UInt8} (H : Hx h) (last : Bool) {ms : List Nat} (hm : ∀ n ∈ ms, n < 65536) : rd (jn 58 (ms.map h)) last = some ms := by
  unfold rd
  cases ms with
  | nil => exact if_pos rfl
  | cons n r =>
    have hn := hm n (List.mem_cons_self ..)
    have hne : jn 58 ((n :: r).map h) ≠ [] := by
      cases r with
      | nil => exact H.ne n hn
      | cons m r =>
        rw [List.map_cons, jn_cons 58 _ (by simp)]
        intro e
        have := congrArg List.length e
        simp at this
    rw [if_neg hne, spl_jn 58 _ (by simp) (fun x hx => by obtain ⟨z, hz, rfl⟩ := List.mem_map.1 hx; exact H.c58 z (hm z hz)), rdL_map H last _ hm]
def txt (h : Nat → List UInt8) (g : List Nat) (a n : Nat) : List UInt8 := if n = 0 then jn 58 (g.map h) else jn 58 ((g.take a).map h) ++ 58 :: 58 :: jn 58 ((g.drop (a + n)).map h)
theorem parse6_txt {h : Nat → List UInt8} (H : Hx h) {g : List Nat} {a n : Nat} (hl : g.length = 8) (hg : ∀ m ∈ g, m < 65536) (han : a + n ≤ 8) (hz : ∀ i, a ≤ i → i < a + n → g[i]? = some 0) : parse6 (txt h g a n) = some g := by
  have parts : ∀ ms : List Nat, (∀ m ∈ ms, m < 65536) → ∀ x ∈ ms.map h, x ≠ [] ∧ (58 : UInt8) ∉ x := fun ms hm x hx => by
    obtain ⟨z, hz, rfl⟩ := List.mem_map.1 hx
    exact ⟨H.ne z (hm z hz), H.c58 z (hm z hz)⟩
  unfold txt parse6
  by_cases h0 : n = 0
  · rw [if_pos h0]
    have hc := cc_jn [] (g.map h) (parts g hg)
    rw [List.append_nil] at hc
    rw [hc]
    simp only [cc, Option.map_none]
    rw [rd_jn H true hg, Option.bind_some, if_pos hl]
  · rw [if_neg h0]
    have h1 : ∀ m ∈ g.take a, m < 65536 := fun m hm => hg m (List.mem_of_mem_take hm)
    have h2 : ∀ m ∈ g.drop (a + n), m < 65536 := fun m hm => hg m (List.mem_of_mem_drop hm)
    rw [cc_jn _ _ (parts _ h1)]
    have hc : ∀ t : List UInt8, cc (58 :: 58 :: t) = some ([], t) := fun t => by rw [cc, if_pos ⟨rfl, rfl⟩]
    rw [hc]
    simp only [Option.map_some, List.append_nil]
    rw [rd_jn H false h1, Option.bind_some, rd_jn H true h2, Option.bind_some]
    have l1 : (g.take a).length = a := by rw [List.length_take]; omega
    have l2 : (g.drop (a + n)).length = 8 - (a + n) := by rw [List.length_drop, hl]
    rw [l1, l2, if_pos (by omega), show 8 - a - (8 - (a + n)) = n by omega]
    congr 1
    apply List.ext_getElem?
    intro i
    rcases Nat.lt_or_ge i a with hi | hi
    · rw [List.append_assoc, List.getElem?_append_left (by omega), List.getElem?_take_of_lt hi]
    · rcases Nat.lt_or_ge i (a + n) with hi' | hi'
      · rw [List.append_assoc, List.getElem?_append_right (by omega), l1, List.getElem?_append_left (by rw [List.length_replicate]; omega), List.getElem?_replicate, if_pos (by omega), hz i hi hi']
      · rw [List.getElem?_append_right (by rw [List.length_append, l1, List.length_replicate]; omega), List.length_append, l1, List.length_replicate, List.getElem?_drop]
        congr 1; omega
theorem hx_Hx : Hx hx := by
  have digs : ∀ n, n < 65536 → ∀ c ∈ hx n, ∃ d, d < 16 ∧ c = d16 d := fun n hn c hc => by
    unfold hx at hc
    split at hc
    · exact ⟨n, by omega, List.mem_singleton.1 hc⟩
    · split at hc
      · rcases List.mem_cons.1 hc with rfl | hc
        · exact ⟨n / 16, by omega, rfl⟩
        · exact ⟨n % 16, by omega, List.mem_singleton.1 hc⟩
      · split at hc
        · rcases List.mem_cons.1 hc with rfl | hc
          · exact ⟨n / 256, by omega, rfl⟩
          · rcases List.mem_cons.1 hc with rfl | hc
            · exact ⟨n / 16 % 16, by omega, rfl⟩
            · exact ⟨n % 16, by omega, List.mem_singleton.1 hc⟩
        · rcases List.mem_cons.1 hc with rfl | hc
          · exact ⟨n / 4096, by omega, rfl⟩
          · rcases List.mem_cons.1 hc with rfl | hc
            · exact ⟨n / 256 % 16, by omega, rfl⟩
            · rcases List.mem_cons.1 hc with rfl | hc
              · exact ⟨n / 16 % 16, by omega, rfl⟩
              · exact ⟨n % 16, by omega, List.mem_singleton.1 hc⟩
  exact ⟨fun n hn => grp_hx hn, fun n _ e => by have := (hx_len n).1; rw [e] at this; simp at this,
    fun n hn hc => by obtain ⟨d, hd, e⟩ := digs n hn _ hc; exact (hv_d16 hd).2.2.1 e.symm,
    fun n hn hc => by obtain ⟨d, hd, e⟩ := digs n hn _ hc; exact (hv_d16 hd).2.2.2.2.1 e.symm⟩
theorem jn_long (c : UInt8) : ∀ xs : List (List UInt8), (∀ x ∈ xs, x.length ≤ 4) → (jn c xs).length ≤ 5 * xs.length - 1
  | [], _ => by simp [jn]
  | [x], h => by have := h x (List.mem_singleton.2 rfl); simp only [jn, List.length_cons, List.length_nil]; omega
  | x :: y :: r, h => by
    have ih := jn_long c (y :: r) fun z hz => h z (List.mem_cons_of_mem _ hz)
    have := h x (List.mem_cons_self ..)
    rw [jn_cons c x (by simp), List.length_append, List.length_cons]
    simp only [List.length_cons] at ih ⊢
    omega
theorem jn_short (c : UInt8) : ∀ xs : List (List UInt8), xs.length ≤ (jn c xs).length + 1
  | [] => by simp
  | [x] => by simp
  | x :: y :: r => by
    have ih := jn_short c (y :: r)
    rw [jn_cons c x (by simp), List.length_append, List.length_cons]
    simp only [List.length_cons] at ih ⊢
    omega
theorem txt_len {g : List Nat} {a n : Nat} (hl : g.length = 8) (han : a + n ≤ 8) (h1 : n ≠ 1) : (txt hx g a n).length ≤ 39 ∧ 2 ≤ (txt hx g a n).length := by
  have four : ∀ ms : List Nat, ∀ x ∈ ms.map hx, x.length ≤ 4 := fun ms x hx' => by
    obtain ⟨z, _, rfl⟩ := List.mem_map.1 hx'
    exact (hx_len z).2
  unfold txt
  split
  · have e1 := jn_long 58 _ (four g)
    have e2 := jn_short 58 (g.map hx)
    rw [List.length_map, hl] at e1 e2
    omega
  · have e1 := jn_long 58 _ (four (g.take a))
    have e2 := jn_long 58 _ (four (g.drop (a + n)))
    rw [List.length_map, List.length_take] at e1
    rw [List.length_map, List.length_drop, hl] at e2
    rw [List.length_append, List.length_cons, List.length_cons]
    omega
def zs (g : List Nat) : List Bool := g.map fun n => decide (n = 0)
theorem eight {g : List Nat} (h : g.length = 8) : ∃ a b c d e f i j, g = [a, b, c, d, e, f, i, j] := by
  match g, h with
  | [a, b, c, d, e, f, i, j], _ => exact ⟨a, b, c, d, e, f, i, j, rfl⟩
theorem zat_zs (g : List Nat) (i : Nat) : zat (zs g) i = decide (g[i]? = some 0) := by
  unfold zat zs
  rw [List.getD_eq_getElem?_getD, List.getElem?_map]
  cases g[i]? <;> simp
theorem run_g {g : List Nat} (h : g.length = 8) : (run (zs g)).1 + (run (zs g)).2 ≤ 8 ∧ ((run (zs g)).2 = 0 → (run (zs g)).1 = 0) ∧ (run (zs g)).2 ≠ 1 ∧ ∀ i, (run (zs g)).1 ≤ i → i < (run (zs g)).1 + (run (zs g)).2 → g[i]? = some 0 := by
  obtain ⟨a, b, c, d, e, f, i, j, rfl⟩ := eight h
  obtain ⟨h1, h2, h3⟩ := run_len (decide (a = 0)) (decide (b = 0)) (decide (c = 0)) (decide (d = 0)) (decide (e = 0)) (decide (f = 0)) (decide (i = 0)) (decide (j = 0))
  refine ⟨h1, h2, h3, fun k hk1 hk2 => ?_⟩
  have hz := List.all_eq_true.1 (run_zeros (decide (a = 0)) (decide (b = 0)) (decide (c = 0)) (decide (d = 0)) (decide (e = 0)) (decide (f = 0)) (decide (i = 0)) (decide (j = 0))) k (List.mem_range.2 (Nat.lt_of_lt_of_le hk2 h1))
  have e1 : zs [a, b, c, d, e, f, i, j] = [decide (a = 0), decide (b = 0), decide (c = 0), decide (d = 0), decide (e = 0), decide (f = 0), decide (i = 0), decide (j = 0)] := rfl
  rw [← e1] at hz
  simp only [Bool.or_eq_true, decide_eq_true_eq] at hz
  rcases hz with (hz | hz) | hz
  · omega
  · omega
  · rw [zat_zs] at hz
    exact of_decide_eq_true hz
def text6 (g : List Nat) : List UInt8 := txt hx g (run (zs g)).1 (run (zs g)).2
theorem parse_text6 {g : List Nat} (hl : g.length = 8) (hg : ∀ m ∈ g, m < 65536) : parse6 (text6 g) = some g := by
  obtain ⟨h1, h2, h3, h4⟩ := run_g hl
  exact parse6_txt hx_Hx hl hg h1 h4
theorem text6_len {g : List Nat} (hl : g.length = 8) : (text6 g).length ≤ 39 ∧ 2 ≤ (text6 g).length := by
  obtain ⟨h1, h2, h3, h4⟩ := run_g hl
  exact txt_len hl h1 h3
end Go.Proofs.YtngecegnlhmnlaaGreatDoor.Si
namespace Go.Proofs.YtngecegnlhmnlaaGreatDoor.Fo
open Go Go.RowKit Go.Vc Go.Proofs.YtngecegnlhmnlaaGreatDoor.Fs
theorem str_at {s : ByteArray} {j : Nat} {c : UInt8} (h : s.data.toList[j]? = some c) : s[j]? = some c := by
  obtain ⟨h1, h2⟩ := List.getElem?_eq_some_iff.1 h
  have h1' : j < s.size := by rw [Array.length_toList] at h1; exact h1
  rw [getElem?_pos s j h1']
  rw [← h2]; rfl
theorem w32' {a : Nat} (h : a < 4294967296) : IntKind.u32.wrap (a : Int) = (a : Int) := by rw [w32, Nat.mod_eq_of_lt h]
theorem rparse_gives (s : ByteArray) (hs : s.size ≤ 10000000) (W : World) :
    Gives Tryz.prog 111 #[.string s] W fun v W' => v = .tuple #[.int .u32 (((addrOf s.data.toList).getD 0 : Nat) : Int), .bool (addrOf s.data.toList).isSome] ∧ Below W.heap.size W W' := F111_fn (by
  unfold F111
  rw [← auto_addr]
  generalize hl : s.data.toList = l
  have hsz : l.length = s.size := by rw [← hl]; exact Array.length_toList
  refine Lp.of (fun t : Nat × Nat × Nat × Nat × Nat => [.int .u32 (t.1 : Int), .int .i64 (t.2.1 : Int), .int .u32 (t.2.2.1 : Int), .int .i64 (t.2.2.2.1 : Int), .int .u32 0, .bool false, .int .i64 (t.2.2.2.2 : Int)])
    (fun t W' => t.2.2.2.2 ≤ l.length ∧ auto (l.drop t.2.2.2.2) t.1 t.2.2.1 t.2.1 t.2.2.2.1 = auto l 0 0 0 0 ∧ t.2.1 ≤ 4 ∧ (t.2.1 = 4 → t.2.2.2.1 = 0) ∧ t.1 < 256 ^ t.2.1 ∧ t.2.2.1 < 256 ∧ t.2.2.2.1 ≤ 3 ∧ W' = W) (fun t => l.length - t.2.2.2.2) (0, 0, 0, 0, 0) rfl ⟨Nat.zero_le _, rfl, by decide, fun h => rfl, by decide, by decide, by decide, rfl⟩ ?_
  rintro ⟨a, p, n, lg, j⟩ W1 k ⟨hj, hau, hp, hp4, ha, hn, hlg, rfl⟩ hk
  dsimp only at hj hau hp hp4 ha hn hlg hk ⊢
  have bel := Below.refl W1.heap.size W1
  refine AsI.mk (AsI.mk (AsI.mk (AsI.mk (AsI.mk (AsB.mk (AsI.mk (If.dec (fun hlt => ?_) fun hge => ?_)))))))
  · have hlt' : j < l.length := by have : (j : Int) < (s.size : Int) := hlt; omega
    have rc := List.getElem?_eq_getElem hlt'
    have hdr : l.drop j = l[j] :: l.drop (j + 1) := List.drop_eq_getElem_cons hlt'
    generalize l[j] = c at rc hdr
    rw [hdr, auto] at hau
    refine Join.use fun J hJ => ⟨c, by omega, by rw [Int.toNat_natCast]; exact str_at (by rw [hl]; exact rc), ?_⟩
    have goJ : ∀ (a' p' n' lg' : Nat), auto (l.drop (j + 1)) a' n' p' lg' = auto l 0 0 0 0 → p' ≤ 4 → (p' = 4 → lg' = 0) → a' < 256 ^ p' → n' < 256 → lg' ≤ 3 → J 0 false (n' : Int) (a' : Int) (p' : Int) (lg' : Int) W1 := fun a' p' n' lg' h1 h2 h3 h4 h5 h6 => by
      rw [hJ]; dsimp only
      rw [nsucc (by omega)]
      exact hk (a', p', n', lg', j + 1) W1 ⟨hlt', h1, h2, h3, h4, h5, h6, rfl⟩ (by dsimp only; omega)
    have rej : auto l 0 0 0 0 = none → (Value.tuple #[.int .u32 0, .bool false] = .tuple #[.int .u32 (((auto l 0 0 0 0).getD 0 : Nat) : Int), .bool (auto l 0 0 0 0).isSome] ∧ Below W1.heap.size W1 W1) := fun h => ⟨by rw [h]; rfl, bel⟩
    refine If.beq (fun h46 => ?_) fun h46 => ?_
    · have hc46 : c.toNat = 46 := by omega
      rw [if_pos hc46] at hau
      refine If.beq (fun h0 => rej ?_) fun h0 => ?_
      · rw [if_pos (by omega)] at hau; exact hau.symm
      · rw [if_neg (by omega)] at hau
        have hp3 : p ≤ 3 := by
          rcases Nat.lt_or_ge 3 p with h | h
          · exact absurd (hp4 (by omega)) (by omega)
          · exact h
        have hpow : (256 : Nat) ^ p ≤ 16777216 := by
          have : p = 0 ∨ p = 1 ∨ p = 2 ∨ p = 3 := by omega
          rcases this with rfl | rfl | rfl | rfl <;> decide
        have e1 : IntKind.u32.wrap (256 * (a : Int)) = ((256 * a : Nat) : Int) := w32' (a := 256 * a) (by omega)
        have e2 : IntKind.u32.wrap (((256 * a : Nat) : Int) + (n : Int)) = ((256 * a + n : Nat) : Int) := w32' (a := 256 * a + n) (by omega)
        rw [e1, e2, nsucc (by omega)]
        exact goJ (256 * a + n) (p + 1) 0 0 hau (by omega) (fun _ => rfl) (by rw [Nat.pow_succ]; omega) (by decide) (by decide)
    · have hc46 : ¬ c.toNat = 46 := by omega
      rw [if_neg hc46] at hau
      refine Join.use fun J1 hJ1 => ?_
      have j1 : ∀ b, (b = true ↔ c.toNat < 48 ∨ 57 < c.toNat) → J1 b W1 := fun b hb => by
        rw [hJ1]; dsimp only
        refine Join.use fun J2 hJ2 => ?_
        have j2 : ∀ b', (b' = true ↔ c.toNat < 48 ∨ 57 < c.toNat ∨ (0 < lg ∧ n = 0)) → J2 b' W1 := fun b' hb' => by
          rw [hJ2]; dsimp only
          refine Join.use fun J3 hJ3 => ?_
          have j3 : ∀ b2, (b2 = true ↔ c.toNat < 48 ∨ 57 < c.toNat ∨ (0 < lg ∧ n = 0) ∨ 2 < lg) → J3 b2 W1 := fun b2 hb2 => by
            rw [hJ3]; dsimp only
            refine Join.use fun J4 hJ4 => ?_
            have j4 : ∀ b3, (b3 = true ↔ c.toNat < 48 ∨ 57 < c.toNat ∨ (0 < lg ∧ n = 0) ∨ 2 < lg ∨ 3 < p) → J4 b3 W1 := fun b3 hb3 => by
              rw [hJ4]; dsimp only
              refine If.split (fun h => rej ?_) fun h => ?_
              · rw [if_pos (hb3.1 h)] at hau; exact hau.symm
              · have hno : ¬ (c.toNat < 48 ∨ 57 < c.toNat ∨ (0 < lg ∧ n = 0) ∨ 2 < lg ∨ 3 < p) := fun e => by rw [hb3.2 e] at h; cases h
                rw [if_neg hno] at hau
                have e1 : IntKind.u32.wrap (10 * (n : Int)) = ((10 * n : Nat) : Int) := w32' (a := 10 * n) (by omega)
                have e2 : IntKind.u32.wrap (c.toNat : Int) = (c.toNat : Int) := w32' (a := c.toNat) (by omega)
                have e3 : IntKind.u32.wrap (((10 * n : Nat) : Int) + (c.toNat : Int)) = ((10 * n + c.toNat : Nat) : Int) := w32' (a := 10 * n + c.toNat) (by omega)
                have e4 : IntKind.u32.wrap (((10 * n + c.toNat : Nat) : Int) - 48) = ((10 * n + (c.toNat - 48) : Nat) : Int) := by
                  rw [show ((10 * n + c.toNat : Nat) : Int) - 48 = ((10 * n + (c.toNat - 48) : Nat) : Int) by omega]
                  exact w32' (by omega)
                rw [e1, e2, e3, e4]
                refine If.dec (fun h255 => rej ?_) fun h255 => ?_
                · rw [if_pos (by omega)] at hau; exact hau.symm
                · rw [if_neg (by omega)] at hau
                  rw [nsucc (by omega)]
                  exact goJ a p (10 * n + (c.toNat - 48)) (lg + 1) hau hp (fun h => by omega) ha (by omega) (by omega)
            refine If.split (fun h => j4 _ ?_) fun h => j4 _ ?_
            · have := hb2.1 h; exact ⟨fun _ => by omega, fun _ => rfl⟩
            · have : ¬ (c.toNat < 48 ∨ 57 < c.toNat ∨ (0 < lg ∧ n = 0) ∨ 2 < lg) := fun e => by rw [hb2.2 e] at h; cases h
              rw [decide_eq_true_eq]; omega
          refine If.split (fun h => j3 _ ?_) fun h => j3 _ ?_
          · have := hb'.1 h; exact ⟨fun _ => by omega, fun _ => rfl⟩
          · have : ¬ (c.toNat < 48 ∨ 57 < c.toNat ∨ (0 < lg ∧ n = 0)) := fun e => by rw [hb'.2 e] at h; cases h
            rw [decide_eq_true_eq]; omega
        refine If.split (fun h => j2 _ ?_) fun h => Join.use fun J5 hJ5 => ?_
        · have := hb.1 h; exact ⟨fun _ => by omega, fun _ => rfl⟩
        · have hnb : ¬ (c.toNat < 48 ∨ 57 < c.toNat) := fun e => by rw [hb.2 e] at h; cases h
          refine If.dec (fun h0 => ?_) fun h0 => ?_
          · rw [hJ5]
            refine j2 _ ?_
            rw [beq_iff_eq]; omega
          · rw [hJ5]
            refine j2 _ ⟨fun e => (by cases e), fun e => by omega⟩
      refine If.dec (fun h => j1 _ ⟨fun _ => by omega, fun _ => rfl⟩) fun h => j1 _ ?_
      rw [decide_eq_true_eq]; omega
  · have hjl : j = l.length := by have : ¬ (j : Int) < (s.size : Int) := hge; omega
    rw [hjl, List.drop_length, auto] at hau
    refine Join.use fun J6 hJ6 => ?_
    have j6 : ∀ b, (b = true ↔ p ≠ 3 ∨ lg = 0) → J6 b W1 := fun b hb => by
      rw [hJ6]; dsimp only
      refine If.split (fun h => ?_) fun h => ?_
      · rw [if_pos (hb.1 h)] at hau
        exact ⟨by rw [← hau]; rfl, bel⟩
      · have hno : ¬ (p ≠ 3 ∨ lg = 0) := fun e => by rw [hb.2 e] at h; cases h
        rw [if_neg hno] at hau
        have hp3 : p = 3 := by omega
        subst hp3
        have ha' : a < 16777216 := ha
        have e1 : IntKind.u32.wrap (256 * (a : Int)) = ((256 * a : Nat) : Int) := w32' (a := 256 * a) (by omega)
        have e2 : IntKind.u32.wrap (((256 * a : Nat) : Int) + (n : Int)) = ((256 * a + n : Nat) : Int) := w32' (a := 256 * a + n) (by omega)
        rw [e1, e2, ← hau]
        exact ⟨rfl, bel⟩
    refine If.bne (fun h => j6 _ ⟨fun _ => .inl (by omega), fun _ => rfl⟩) fun h => j6 _ ?_
    rw [beq_iff_eq]; omega)
end Go.Proofs.YtngecegnlhmnlaaGreatDoor.Fo
namespace Go.Vc
theorem Join.and {a c : Bool} {j : Bool → World → Prop} {W : World} (h : j (a && c) W) : Join j fun J => If a (J c W) (J false W) := by
  unfold Join; cases a <;> exact h
theorem Join.or {a c : Bool} {j : Bool → World → Prop} {W : World} (h : j (a || c) W) : Join j fun J => If a (J true W) (J c W) := by
  unfold Join; cases a <;> exact h
theorem If.val {b : Bool} {x y : Prop} (h : if b = true then x else y) : If b x y := by
  cases b with
  | true => exact h
  | false => exact h
theorem If.ofB {b : Bool} {p : Prop} {x y : Prop} (hb : b = true ↔ p) (h : p → x) (k : ¬ p → y) : If b x y := by
  cases b with
  | true => exact h (hb.1 rfl)
  | false => exact k fun e => by have := hb.2 e; cases this
end Go.Vc
namespace Go.Proofs.YtngecegnlhmnlaaGreatDoor.Fo
open Go Go.RowKit Go.Vc Go.Proofs.YtngecegnlhmnlaaGreatDoor.Fs
theorem splitc_gives (c : UInt8) {W : World} (h : Vr W) (s : ByteArray) (hs : s.size < 4294967281) :
    Gives Tryz.prog 66 #[.string s, .string ⟨#[c]⟩] W fun v W' => NewSl W 9 1 enStr ((spl c s.data.toList).map bs) v W' ∧ Below W.heap.size W W' := by
  obtain ⟨m, hm⟩ := h.ml
  have h1c : 1 ≤ (⟨#[c]⟩ : ByteArray).size := Nat.le_refl 1
  refine Calls.mono (Tryz.strings_Split s ⟨#[c]⟩ m W hs hm h1c) fun e w' hh => ?_
  obtain ⟨he, rfl⟩ := hh
  have hd : (Lib.splitB ⟨#[c]⟩ 0 (Lib.countB s ⟨#[c]⟩) s) = (spl c s.data.toList).map bs := by
    have h1 := Lib.splitB_data ⟨#[c]⟩ 0 (Lib.countB s ⟨#[c]⟩) s
    have h2 : Lib.countB s ⟨#[c]⟩ = s.data.toList.count c := Lib.count_one c s.data.toList
    have h3 : Lib.splitK [c] 0 (Lib.countB s ⟨#[c]⟩) s.data.toList = spl c s.data.toList := splitK_spl c _ _ h2.symm
    have h4 : (Lib.splitB ⟨#[c]⟩ 0 (Lib.countB s ⟨#[c]⟩) s).map (·.data.toList) = spl c s.data.toList := h1.trans h3
    rw [← h4, List.map_map]
    conv => lhs; rw [← List.map_id (Lib.splitB ⟨#[c]⟩ 0 (Lib.countB s ⟨#[c]⟩) s)]
    exact List.map_congr_left fun x _ => (bs_data x).symm
  have hlen : Lib.countB s ⟨#[c]⟩ + 1 = ((spl c s.data.toList).map bs).length := by
    rw [← hd]; exact (Lib.splitB_all ⟨#[c]⟩ h1c 0 _ s rfl).symm
  have hle : Lib.countB s ⟨#[c]⟩ ≤ s.size := Lib.countB_le ⟨#[c]⟩ h1c s.size s (Nat.le_refl _)
  rw [hlen] at he
  rw [hd]
  have hmx : (4294967290 : Nat) ≤ maxLen := by decide
  refine ⟨_, he, ⟨_, _, rfl, strR (l := (spl c s.data.toList).map bs) alloc_same (by rw [← hlen]; omega), fun g hg => by cases hg; exact Nat.le_refl _⟩, (Below.refl _ W).alloc (Nat.le_refl _) _⟩
theorem joinc_gives (s : UInt8) {W : World} {l : List ByteArray} {a : Option Addr} {c : Nat} (hs : SlR W 9 1 enStr (.slice a l.length c) l) (hl : (jn s (l.map (·.data.toList))).length ≤ 10000000) :
    Gives Tryz.prog 55 #[.slice a l.length c, .string ⟨#[s]⟩] W fun v W' => v = .string (bs (jn s (l.map (·.data.toList)))) ∧ Below W.heap.size W W' := by
  by_cases hne : l = []
  · subst hne
    refine Calls.mono (Tryz.strings_Join_none a c ⟨#[s]⟩ W) fun e w' hh => ?_
    obtain ⟨he, rfl⟩ := hh
    exact ⟨_, he, rfl, Below.refl _ _⟩
  obtain ⟨g, cap, cur, hv, hg, h1, h2, h3, h4⟩ := hs.cells hne
  cases hv
  have hlt := heap_lt hg
  rw [enStr_flat] at h4
  refine Calls.mono (Tryz.strings_Join g 0 c l ⟨#[s]⟩ W (fun j x hx => ?_) hlt (by
    have := jn_len s (l.map (·.data.toList))
    rw [List.length_map] at this
    omega) h1 (by rw [show ((⟨#[s]⟩ : ByteArray).data.toList) = [s] from rfl, jn_join]; omega)) fun e w' hh => ?_
  · rw [Nat.zero_add]
    refine cell_of hg ?_
    have := congrArg (fun m => m[j]?) h4
    simp only [List.getElem?_map, hx, Option.map_some] at this
    rw [List.getElem?_take] at this
    split at this
    · simpa using this
    · cases this
  · obtain ⟨he, hb⟩ := hh
    refine ⟨_, he, ?_, hb⟩
    rw [show ((⟨#[s]⟩ : ByteArray).data.toList) = [s] from rfl, jn_join]
theorem spl_part {c : UInt8} {l x : List UInt8} (hx : x ∈ spl c l) : x.length ≤ l.length := by
  have hj := jn_spl c l
  have : ∀ (m : List (List UInt8)), x ∈ m → x.length ≤ (jn c m).length := fun m => by
    induction m with
    | nil => intro hx; cases hx
    | cons y r ih =>
      intro hx
      cases r with
      | nil => obtain rfl := List.mem_singleton.1 hx; exact Nat.le_refl _
      | cons z r =>
        rw [jn_cons c y (by simp), List.length_append, List.length_cons]
        rcases List.mem_cons.1 hx with rfl | hx
        · omega
        · have := ih hx; omega
  have h1 := this _ hx
  rwa [hj] at h1
theorem size_list (s : ByteArray) : s.data.toList.length = s.size := Array.length_toList
end Go.Proofs.YtngecegnlhmnlaaGreatDoor.Fo
namespace Go.Proofs.YtngecegnlhmnlaaGreatDoor.Si
open Go Go.RowKit Go.Vc Go.Proofs.YtngecegnlhmnlaaGreatDoor Go.Proofs.YtngecegnlhmnlaaGreatDoor.Fs Go.Proofs.YtngecegnlhmnlaaGreatDoor.Fo
def grpAt (x : Nat × Nat) (k : Nat) : Nat := (gs x.1 x.2).getD (7 - k) 0
theorem or_low (a b r : Nat) (hr : r % 65536 = 0) : (a ||| b * r % 18446744073709551616) % 65536 = a % 65536 := by
  have h1 : (a ||| b * r % 18446744073709551616) % 2 ^ 16 = a % 2 ^ 16 ||| (b * r % 18446744073709551616) % 2 ^ 16 := Nat.or_mod_two_pow
  have h2 : (b * r % 18446744073709551616) % 2 ^ 16 = 0 := by
    obtain ⟨q, rfl⟩ : ∃ q, r = 65536 * q := ⟨r / 65536, by omega⟩
    rw [show (18446744073709551616 : Nat) = 65536 * 281474976710656 by decide, Nat.mul_left_comm, Nat.mul_mod_mul_left]
    exact Nat.mul_mod_right 65536 _
  have e : (2 ^ 16 : Nat) = 65536 := by decide
  rw [h2, Nat.or_zero, e] at h1
  exact h1
theorem right_gives (x : Nat × Nat) (h1 : x.1 < 18446744073709551616) (h2 : x.2 < 18446744073709551616) {k : Nat} (hk : k < 8) (W : World) :
    Gives Tryz.prog 85 #[.agg (enW x).toArray, .int .i64 ((16 * k : Nat) : Int)] W fun v W' => (∃ y : Nat × Nat, v = .agg (enW y).toArray ∧ y.2 % 65536 = grpAt x k) ∧ Below W.heap.size W W' := F85_fn (by
  unfold F85
  have hS := Ow.start NoS W
  refine hS.new fun b1 W1 hS => hS.new fun b2 W2 hS => ?_
  have hlow : k ≤ 3 → ∃ p r : Nat, 0 < p ∧ (1 ≤ k → r % 65536 = 0) ∧ (2 ^ (min (Int.toNat ((16 * k : Nat) : Int)) (IntKind.u64).bits) : Int) = (p : Int) ∧ (2 ^ (min (Int.toNat (IntKind.i64.wrap (64 - ((16 * k : Nat) : Int)))) (IntKind.u64).bits) : Int) = (r : Int) ∧ x.2 / p % 65536 = grpAt x k := fun h3 => by
    have : k = 0 ∨ k = 1 ∨ k = 2 ∨ k = 3 := by omega
    rcases this with rfl | rfl | rfl | rfl
    · exact ⟨1, 18446744073709551616, by decide, fun _ => by decide, by kernel_rfl, by kernel_rfl, by rw [Nat.div_one]; rfl⟩
    · exact ⟨65536, 281474976710656, by decide, fun _ => by decide, by kernel_rfl, by kernel_rfl, rfl⟩
    · exact ⟨4294967296, 4294967296, by decide, fun _ => by decide, by kernel_rfl, by kernel_rfl, rfl⟩
    · exact ⟨281474976710656, 65536, by decide, fun _ => by decide, by kernel_rfl, by kernel_rfl, rfl⟩
  have hhigh : 4 ≤ k → ∃ p : Nat, 0 < p ∧ 0 ≤ IntKind.i64.wrap (((16 * k : Nat) : Int) - 64) ∧ (2 ^ (min (Int.toNat (IntKind.i64.wrap (((16 * k : Nat) : Int) - 64))) (IntKind.u64).bits) : Int) = (p : Int) ∧ x.1 / p % 65536 = grpAt x k := fun h3 => by
    have : k = 4 ∨ k = 5 ∨ k = 6 ∨ k = 7 := by omega
    rcases this with rfl | rfl | rfl | rfl
    · exact ⟨1, by decide, by decide, by kernel_rfl, by rw [Nat.div_one]; rfl⟩
    · exact ⟨65536, by decide, by decide, by kernel_rfl, rfl⟩
    · exact ⟨4294967296, by decide, by decide, by kernel_rfl, rfl⟩
    · exact ⟨281474976710656, by decide, by decide, by kernel_rfl, rfl⟩
  refine If.dec (fun h0 => ?_) fun h0 => If.dec (fun h8 => absurd h8 (by omega)) fun _ => If.dec (fun h4 => ?_) fun h4 => ?_
  · have hk0 : k = 0 := by omega
    subst hk0
    exact hS.ldw 1 rfl rfl (hS.stw 0 rfl (cs := enW x) rfl rfl rfl fun W3 hS => hS.ldw 0 rfl rfl ⟨⟨x, rfl, rfl⟩, hS.bel⟩)
  · obtain ⟨p, hp, hw, e, hv⟩ := hhigh (by omega)
    refine hS.ld 1 rfl rfl (AsI.mk ⟨hw, ?_⟩)
    rw [e, fd _ _ hp]
    exact BldC.mk (cs := enW (0, x.1 / p)) ⟨rfl, by decide, trivial⟩ rfl (hS.stw 0 rfl (cs := enW (0, x.1 / p)) rfl rfl rfl fun W3 hS => hS.ldw 0 rfl rfl ⟨⟨_, rfl, hv⟩, hS.bel⟩)
  · obtain ⟨p, r, hp, hr, e1, e2, hv⟩ := hlow (by omega)
    refine hS.ld 1 rfl rfl (AsI.mk ⟨by omega, ?_⟩)
    refine hS.ldA 1 rfl rfl (AsI.mk ⟨by omega, ?_⟩)
    refine hS.ld 1 rfl rfl (AsI.mk (hS.any fun W3 hS => ⟨by rw [wrap_i64 (by omega) (by omega)]; omega, ?_⟩))
    rw [e1, e2, fd _ _ hp, fd _ _ hp, ← Int.natCast_mul, w64 (x.1 * r), or0 _ _ (Nat.lt_of_le_of_lt (Nat.div_le_self _ _) h2) (Nat.mod_lt _ (by decide))]
    exact BldC.mk (cs := enW (x.1 / p, x.2 / p ||| x.1 * r % 18446744073709551616)) ⟨rfl, by decide, rfl, by decide, trivial⟩ rfl (hS.stw 0 rfl (cs := enW (x.1 / p, x.2 / p ||| x.1 * r % 18446744073709551616)) rfl rfl rfl fun W4 hS => hS.ldw 0 rfl rfl ⟨⟨_, rfl, by dsimp only; rw [or_low _ _ _ (hr (by omega))]; exact hv⟩, hS.bel⟩))
theorem enG_set (os : List Nat) (n z : Nat) (zs : List Nat) : (enG (os ++ z :: zs)).set os.length (.int .u16 (n : Int)) = enG (os ++ [n] ++ zs) := by
  unfold enG
  rw [List.map_append, List.map_cons, List.append_assoc, List.map_append]
  rw [List.set_append_right _ _ (by simp)]
  simp
theorem enG_len (l : List Nat) : (enG l).length = l.length := List.length_map _
theorem groups_gives (x : Nat × Nat) (h1 : x.1 < 18446744073709551616) (h2 : x.2 < 18446744073709551616) (W : World) :
    Gives Tryz.prog 140 #[.agg (enW x).toArray] W fun v W' => v = .agg (enG (gs x.1 x.2)).toArray ∧ Below W.heap.size W W' := F140_fn (by
  unfold F140
  have hS := Ow.start NoS W
  refine hS.new fun b1 W1 hS => hS.new fun b2 W2 hS => hS.new fun b3 W3 hS => ?_
  have hl : (gs x.1 x.2).length = 8 := rfl
  have hlt := gs_lt x.1 x.2
  have hgr : ∀ j, j < 8 → grpAt x (7 - j) = (gs x.1 x.2).getD j 0 := fun j hj => by unfold grpAt; congr 1; omega
  generalize gs x.1 x.2 = g at hl hlt hgr ⊢
  refine Lp.of (fun j : Nat => [.int .i64 (j : Int)]) (fun j W' => j ≤ 8 ∧ Ow NoS W W' [.cl b3 (enG (g.take j ++ List.replicate (8 - j) 0)) 168, .cl b2 (enG [0, 0, 0, 0, 0, 0, 0, 0]) 168, .cl b1 (enW x) 120]) (fun j => 8 - j) 0 rfl ⟨by omega, by exact hS⟩ ?_
  rintro j W4 k ⟨hj, hS⟩ hk
  refine AsI.mk (If.dec (fun hlt' => ?_) fun hge => ?_)
  · have hj8 : j < 8 := by omega
    have hjl : j < g.length := by omega
    refine hS.ldw 2 rfl rfl ?_
    have e : IntKind.i64.wrap (16 * (IntKind.i64.wrap (7 - (j : Int)))) = ((16 * (7 - j) : Nat) : Int) := by
      rw [show IntKind.i64.wrap (7 - (j : Int)) = 7 - (j : Int) from wrap_i64 (by omega) (by omega), wrap_i64 (by omega) (by omega)]; omega
    rw [e]
    refine hS.call (right_gives x h1 h2 (k := 7 - j) (by omega) W4) ?_
    rintro _ W5 ⟨y, rfl, hy⟩ hS
    rw [hgr j hj8] at hy
    show Fld (enW y).toArray 1 _
    refine ⟨.int .u64 (y.2 : Int), rfl, AsI.mk ?_⟩
    rw [w16, hy]
    have hgj : g.getD j 0 = g[j] := by rw [List.getD_eq_getElem?_getD, List.getElem?_eq_getElem hjl]; rfl
    rw [hgj]
    refine IdxA.to rfl hj8 ?_
    rw [Nat.mul_one]
    obtain ⟨m, hm⟩ : ∃ m, 8 - j = m + 1 := ⟨7 - j, by omega⟩
    have ht : (g.take j).length = j := by rw [List.length_take]; omega
    have hset := enG_set (g.take j) g[j] 0 (List.replicate m 0)
    rw [ht] at hset
    refine hS.st1 0 rfl (enG (g.take (j + 1) ++ List.replicate (8 - (j + 1)) 0)) ?_ rfl rfl (by rw [enG_len, List.length_append, ht, List.length_replicate]; omega) fun W6 hS => ?_
    · rw [hm, List.replicate_succ, hset, List.take_succ_eq_append_getElem hjl, show 8 - (j + 1) = m by omega]
    · rw [nsucc (by omega)]
      exact hk (j + 1) W6 ⟨hj8, hS⟩ (by omega)
  · have hj8 : j = 8 := by omega
    subst hj8
    have e : g.take 8 ++ List.replicate (8 - 8) 0 = g := by rw [List.take_of_length_le (by omega)]; simp
    rw [e] at hS
    refine hS.ldw 0 rfl (by rw [enG_len]; exact hl) (hS.stw 1 rfl (cs := enG g) rfl (by rw [enG_len]; exact hl) (by unfold enG; rw [List.all_map, List.all_eq_true]; intro _ _; rfl) fun W5 hS => hS.ldw 1 rfl (by rw [enG_len]; exact hl) ⟨rfl, hS.bel⟩))
def gq (hi lo i : Nat) : List Nat := [if 4 ≤ i then hi / 281474976710656 % 65536 else 0, if 3 ≤ i then hi / 4294967296 % 65536 else 0, if 2 ≤ i then hi / 65536 % 65536 else 0, if 1 ≤ i then hi % 65536 else 0, if 4 ≤ i then lo / 281474976710656 % 65536 else 0, if 3 ≤ i then lo / 4294967296 % 65536 else 0, if 2 ≤ i then lo / 65536 % 65536 else 0, if 1 ≤ i then lo % 65536 else 0]
theorem gq_step {hi lo i : Nat} (h : i < 4) : ((enG (gq hi lo i)).set (3 - i) (.int .u16 ((hi / 65536 ^ i % 65536 : Nat) : Int))).set (7 - i) (.int .u16 ((lo / 65536 ^ i % 65536 : Nat) : Int)) = enG (gq hi lo (i + 1)) := by
  have : i = 0 ∨ i = 1 ∨ i = 2 ∨ i = 3 := by omega
  rcases this with rfl | rfl | rfl | rfl <;> simp [enG, gq]
theorem rgroups_gives (x : Nat × Nat) (h1 : x.1 < 18446744073709551616) (h2 : x.2 < 18446744073709551616) (W : World) :
    Gives Tryz.prog 145 #[.agg (enW x).toArray] W fun v W' => v = .agg (enG (gs x.1 x.2)).toArray ∧ Below W.heap.size W W' := F145_fn (by
  unfold F145
  have hS := Ow.start NoS W
  refine hS.new fun b1 W1 hS => hS.new fun b2 W2 hS => hS.new fun b3 W3 hS => ?_
  have e0 : enW x = enW (x.1 / 65536 ^ 0, x.2 / 65536 ^ 0) := by simp
  have hS' : Ow NoS W W3 [.cl b3 (enG (gq x.1 x.2 0)) 168, .cl b2 (enG [0, 0, 0, 0, 0, 0, 0, 0]) 168, .cl b1 (enW (x.1 / 65536 ^ 0, x.2 / 65536 ^ 0)) 126] := by rw [← e0]; exact hS
  refine Lp.of (fun j : Nat => [.int .i64 (j : Int)]) (fun j W' => j ≤ 4 ∧ Ow NoS W W' [.cl b3 (enG (gq x.1 x.2 j)) 168, .cl b2 (enG [0, 0, 0, 0, 0, 0, 0, 0]) 168, .cl b1 (enW (x.1 / 65536 ^ j, x.2 / 65536 ^ j)) 126]) (fun j => 4 - j) 0 rfl ⟨by omega, hS'⟩ ?_
  rintro j W4 k ⟨hj, hS⟩ hk
  refine AsI.mk (If.dec (fun hlt' => ?_) fun hge => ?_)
  · have hj4 : j < 4 := by omega
    have m1 : ((x.1 / 65536 ^ j : Nat) : Int).tmod 65536 = ((x.1 / 65536 ^ j % 65536 : Nat) : Int) := rfl
    have m2 : ((x.2 / 65536 ^ j : Nat) : Int).tmod 65536 = ((x.2 / 65536 ^ j % 65536 : Nat) : Int) := rfl
    have d1 : ((x.1 / 65536 ^ j : Nat) : Int).tdiv 65536 = ((x.1 / 65536 ^ (j + 1) : Nat) : Int) := by
      rw [Nat.pow_succ, ← Nat.div_div_eq_div_mul]; rfl
    have d2 : ((x.2 / 65536 ^ j : Nat) : Int).tdiv 65536 = ((x.2 / 65536 ^ (j + 1) : Nat) : Int) := by
      rw [Nat.pow_succ, ← Nat.div_div_eq_div_mul]; rfl
    have b1' : x.1 / 65536 ^ (j + 1) < 18446744073709551616 := Nat.lt_of_le_of_lt (Nat.div_le_self _ _) h1
    have b2' : x.2 / 65536 ^ (j + 1) < 18446744073709551616 := Nat.lt_of_le_of_lt (Nat.div_le_self _ _) h2
    refine hS.ld 2 rfl rfl (AsI.mk ⟨by decide, ?_⟩)
    refine hS.ldA 2 rfl rfl (AsI.mk ⟨by decide, hS.any fun W5 hS => ?_⟩)
    dsimp only
    rw [m1, m2, w16, w16, Nat.mod_mod, Nat.mod_mod]
    refine IdxA.to (j := 3 - j) (by rw [wrap_i64 (by omega) (by omega)]; omega) (by omega) ?_
    rw [Nat.mul_one]
    refine hS.st1 0 rfl _ rfl rfl rfl (by rw [enG_len]; show _ < 8; omega) fun W6 hS => ?_
    refine hS.stlA 2 rfl rfl (IdxA.to (j := 7 - j) (by rw [wrap_i64 (by omega) (by omega)]; omega) (by omega) ?_)
    rw [Nat.mul_one]
    refine hS.st1 0 rfl _ (gq_step hj4) rfl rfl (by rw [List.length_set, enG_len]; show _ < 8; omega) fun W7 hS => ?_
    refine hS.ld 2 rfl rfl (AsI.mk ⟨by decide, ?_⟩)
    refine hS.ldA 2 rfl rfl (AsI.mk ⟨by decide, ?_⟩)
    dsimp only
    rw [d1, d2, w64, w64, Nat.mod_eq_of_lt b1', Nat.mod_eq_of_lt b2']
    refine hS.st0 2 rfl _ rfl rfl rfl Nat.zero_lt_two fun W8 hS => hS.st1 2 rfl (enW (x.1 / 65536 ^ (j + 1), x.2 / 65536 ^ (j + 1))) rfl rfl rfl Nat.one_lt_two fun W9 hS => ?_
    rw [nsucc (by omega)]
    exact hk (j + 1) W9 ⟨hj4, hS⟩ (by omega)
  · have hj4 : j = 4 := by omega
    subst hj4
    have e : gq x.1 x.2 4 = gs x.1 x.2 := rfl
    rw [e] at hS
    refine hS.ldw 0 rfl rfl (hS.stw 1 rfl (cs := enG (gs x.1 x.2)) rfl rfl rfl fun W5 hS => hS.ldw 1 rfl rfl ⟨rfl, hS.bel⟩))
theorem enG_at {g : List Nat} {i : Nat} (h : i < g.length) : (enG g)[i]? = some (.int .u16 (g[i] : Int)) := by unfold enG; rw [List.getElem?_map, List.getElem?_eq_getElem h]; rfl
theorem zat_at {g : List Nat} {i : Nat} (h : i < g.length) : zat (zs g) i = decide (g[i] = 0) := by
  rw [zat_zs, List.getElem?_eq_getElem h]; simp
theorem run_gives {g : List Nat} (hg : g.length = 8) (W : World) :
    Gives Tryz.prog 141 #[.agg (enG g).toArray] W fun v W' => v = .tuple #[.int .i64 ((run (zs g)).1 : Int), .int .i64 ((run (zs g)).2 : Int)] ∧ Below W.heap.size W W' := F141_fn (by
  unfold F141
  have hS := Ow.start NoS W
  refine hS.new fun b1 W1 hS => ?_
  refine Lp.of (fun s : Nat × Nat × Nat => [.int .i64 (s.1 : Int), .int .i64 (s.2.1 : Int), .int .i64 (s.2.2 : Int)]) (fun s W' => s.2.2 ≤ 8 ∧ runS (zs g) (8 - s.2.2) s.2.2 s.1 s.2.1 = run (zs g) ∧ Ow NoS W W' [.cl b1 (enG g) 168]) (fun s => 8 - s.2.2) (0, 0, 0) rfl ⟨by decide, rfl, hS⟩ ?_
  rintro ⟨a, l, i⟩ W2 k ⟨hi, hr, hS⟩ hk
  dsimp only at hi hr hS hk ⊢
  refine AsI.mk (AsI.mk (AsI.mk (If.dec (fun hlt => ?_) fun hge => ?_)))
  · have hi8 : i < 8 := by omega
    obtain ⟨f, hf⟩ : ∃ f, 8 - i = f + 1 := ⟨7 - i, by omega⟩
    rw [hf, runS] at hr
    refine Lp.of (fun n : Nat => [.int .i64 (n : Int)]) (fun n W' => n ≤ 8 ∧ i + n ≤ 8 ∧ cnt (zs g) i (8 - n) n = cnt (zs g) i 8 0 ∧ Ow NoS W W' [.cl b1 (enG g) 168]) (fun n => 8 - n) 0 rfl ⟨by decide, by omega, rfl, hS⟩ ?_
    rintro n W3 k' ⟨hn, hin, hc, hS⟩ hk'
    have ew : IntKind.i64.wrap ((i : Int) + (n : Int)) = ((i + n : Nat) : Int) := by rw [wrap_i64 (by omega) (by omega)]; omega
    refine AsI.mk (Join.use fun J hJ => ?_)
    have done : cnt (zs g) i 8 0 = n → J false W3 := fun hd => by
      rw [hJ]; dsimp only
      refine If.neg rfl (Join.use fun J1 hJ1 => ?_)
      have go : ∀ a' l', runS (zs g) f (i + 1) a' l' = run (zs g) → J1 (a' : Int) (l' : Int) W3 := fun a' l' h => by
        rw [hJ1]; dsimp only
        rw [nsucc (by omega)]
        exact hk (a', l', i + 1) W3 ⟨hi8, by dsimp only; rw [show 8 - (i + 1) = f by omega]; exact h, hS⟩ (by dsimp only; omega)
      rw [hd] at hr
      refine If.dec (fun h => go i n ?_) fun h => go a l ?_
      · rw [if_pos (by omega)] at hr; exact hr
      · rw [if_neg (by omega)] at hr; exact hr
    rw [ew]
    refine If.dec (fun h => ?_) fun h => done ?_
    · have hl : i + n < g.length := by omega
      refine IdxA.to rfl (by omega) ?_
      rw [Nat.mul_one]
      refine hS.ldA 0 rfl (enG_at hl) (AsI.mk ?_)
      obtain ⟨m, hm⟩ : ∃ m, 8 - n = m + 1 := ⟨7 - n, by omega⟩
      rw [hm, cnt, zat_at hl] at hc
      by_cases h0 : g[i + n] = 0
      · rw [if_pos ⟨by omega, by simpa using h0⟩] at hc
        have e : ((g[i + n] : Int) == 0) = true := by rw [beq_iff_eq]; omega
        rw [e, hJ]; dsimp only
        refine If.pos rfl ?_
        rw [nsucc (by omega)]
        exact hk' (n + 1) W3 ⟨by omega, by omega, by rw [show 8 - (n + 1) = m by omega]; exact hc, hS⟩ (by omega)
      · rw [if_neg (fun e => h0 (by simpa using e.2))] at hc
        have e : ((g[i + n] : Int) == 0) = false := by rw [beq_eq_false_iff_ne]; omega
        rw [e]
        exact done hc.symm
    · rw [← hc]
      cases hm : 8 - n with
      | zero => rfl
      | succ m => rw [cnt, if_neg (by omega)]
  · have hi8 : i = 8 := by omega
    subst hi8
    rw [show 8 - 8 = 0 from rfl, runS] at hr
    refine If.dec (fun h => ⟨?_, hS.bel⟩) fun h => ⟨?_, hS.bel⟩
    · rw [if_pos (by omega)] at hr; rw [← hr]; rfl
    · rw [if_neg (by omega)] at hr; rw [← hr])
theorem zeros_gives {g : List Nat} (hg : g.length = 8) {i n : Nat} (hi : i < 8) (hn : n ≤ 8) (W : World) :
    Gives Tryz.prog 189 #[.agg (enG g).toArray, .int .i64 (i : Int), .int .i64 (n : Int)] W fun v W' => v = .bool (zerosR (zs g) (i + n) 9 i) ∧ Below W.heap.size W W' := F189_fn (by
  unfold F189
  have hS := Ow.start NoS W
  refine hS.new fun b1 W1 hS => ?_
  have ew : IntKind.i64.wrap ((i : Int) + (n : Int)) = ((i + n : Nat) : Int) := by rw [wrap_i64 (by omega) (by omega)]; omega
  rw [ew]
  refine Lp.of (fun j : Nat => [.bool false, .int .i64 (j : Int)]) (fun j W' => i ≤ j ∧ j ≤ 8 ∧ zerosR (zs g) (i + n) (9 + i - j) j = zerosR (zs g) (i + n) 9 i ∧ Ow NoS W W' [.cl b1 (enG g) 168]) (fun j => 8 - j) i rfl ⟨Nat.le_refl _, by omega, by rw [show 9 + i - i = 9 by omega], hS⟩ ?_
  rintro j W2 k ⟨hij, hj, hr, hS⟩ hk
  obtain ⟨f, hf⟩ : ∃ f, 9 + i - j = f + 1 := ⟨8 + i - j, by omega⟩
  rw [hf, zerosR] at hr
  refine AsB.mk (AsI.mk (If.dec (fun hlt => ?_) fun hge => ?_))
  · rw [if_pos (by omega)] at hr
    refine Join.use fun J hJ => If.dec (fun h => ?_) fun h => ?_
    · rw [hJ]
      rw [if_pos (.inl (by omega))] at hr
      exact If.pos rfl ⟨by rw [← hr], hS.bel⟩
    · have hl : j < g.length := by omega
      refine IdxA.to rfl (by omega) ?_
      rw [Nat.mul_one]
      refine hS.ldA 0 rfl (enG_at hl) (AsI.mk ?_)
      rw [zat_at hl] at hr
      by_cases h0 : g[j] = 0
      · rw [if_neg (fun e => by rcases e with e | e; · omega
                                · rw [decide_eq_true h0] at e; cases e)] at hr
        have e : ((g[j] : Int) != 0) = false := by rw [bne_eq_false_iff_eq]; omega
        rw [e, hJ]; dsimp only
        refine If.neg rfl ?_
        rw [nsucc (by omega)]
        exact hk (j + 1) W2 ⟨by omega, by omega, by rw [show 9 + i - (j + 1) = f by omega]; exact hr, hS⟩ (by omega)
      · rw [if_pos (.inr (by simpa using h0))] at hr
        have e : ((g[j] : Int) != 0) = true := by rw [bne_iff_ne]; omega
        rw [e, hJ]
        exact If.pos rfl ⟨by rw [← hr], hS.bel⟩
  · rw [if_neg (by omega)] at hr
    exact ⟨by rw [← hr], hS.bel⟩)
theorem rrun_gives {g : List Nat} (hg : g.length = 8) (W : World) :
    Gives Tryz.prog 146 #[.agg (enG g).toArray] W fun v W' => v = .tuple #[.int .i64 ((run (zs g)).1 : Int), .int .i64 ((run (zs g)).2 : Int)] ∧ Below W.heap.size W W' := F146_fn (by
  unfold F146
  have hS := Ow.start NoS W
  have hrr : runR (zs g) 7 = run (zs g) := by
    obtain ⟨a, b, c, d, e, f, i, j, rfl⟩ := eight hg
    exact run_eq (decide (a = 0)) (decide (b = 0)) (decide (c = 0)) (decide (d = 0)) (decide (e = 0)) (decide (f = 0)) (decide (i = 0)) (decide (j = 0))
  refine hS.new fun b1 W1 hS => ?_
  refine Lp.of (fun f : Nat => [.int .i64 0, .int .i64 0, .int .i64 ((f + 1 : Nat) : Int)]) (fun f W' => f ≤ 7 ∧ runR (zs g) f = run (zs g) ∧ Ow NoS W W' [.cl b1 (enG g) 168]) (fun f => f) 7 rfl ⟨by decide, hrr, hS⟩ ?_
  rintro f W2 k ⟨hf, hr, hS⟩ hk
  refine AsI.mk (AsI.mk (AsI.mk (If.dec (fun hlt => ?_) fun hge => ?_)))
  · obtain ⟨f, rfl⟩ : ∃ m, f = m + 1 := ⟨f - 1, by omega⟩
    rw [runR] at hr
    refine Lp.of (fun i : Nat => [.int .i64 0, .int .i64 0, .int .i64 (i : Int)]) (fun i W' => i ≤ 8 ∧ atR (zs g) (f + 2) (8 - i) i = atR (zs g) (f + 2) 8 0 ∧ Ow NoS W W' [.cl b1 (enG g) 168]) (fun i => 8 - i) 0 rfl ⟨by decide, rfl, hS⟩ ?_
    rintro i W3 k' ⟨hi, ha, hS⟩ hk'
    refine AsI.mk (AsI.mk (AsI.mk (If.dec (fun hlt2 => ?_) fun hge2 => ?_)))
    · obtain ⟨m, hm⟩ : ∃ m, 8 - i = m + 1 := ⟨7 - i, by omega⟩
      rw [hm, atR] at ha
      refine hS.ldw 0 rfl (by rw [enG_len]; exact hg) (hS.callv (zeros_gives hg (i := i) (n := f + 1 + 1) (by omega) (by omega) W3) fun W4 hS => AsB.mk ?_)
      refine If.split (fun hb => ⟨?_, hS.bel⟩) fun hb => ?_
      · rw [if_pos hb] at ha
        rw [← ha] at hr
        rw [← hr]
      · rw [if_neg (by rw [hb]; decide)] at ha
        rw [nsucc (by omega)]
        exact hk' (i + 1) W4 ⟨by omega, by rw [show 8 - (i + 1) = m by omega]; exact ha, hS⟩ (by omega)
    · rw [show 8 - i = 0 by omega, atR] at ha
      rw [← ha] at hr
      have e : IntKind.i64.wrap (((f + 1 + 1 : Nat) : Int) - 1) = ((f + 1 : Nat) : Int) := by rw [wrap_i64 (by omega) (by omega)]; omega
      rw [e]
      exact hk f W3 ⟨by omega, hr, hS⟩ (by omega)
  · have : f = 0 := by omega
    subst this
    rw [runR] at hr
    exact ⟨by rw [← hr]; rfl, hS.bel⟩)
end Go.Proofs.YtngecegnlhmnlaaGreatDoor.Si
namespace Go.Proofs.YtngecegnlhmnlaaGreatDoor.Si
open Go Go.RowKit Go.Vc Go.Proofs.YtngecegnlhmnlaaGreatDoor Go.Proofs.YtngecegnlhmnlaaGreatDoor.Fs Go.Proofs.YtngecegnlhmnlaaGreatDoor.Fo
def enN (n : Nat) : List Value := [.int .u16 (n : Int)]
theorem enN_len (n : Nat) : (enN n).length = 1 := rfl
theorem enN_flat : ∀ l : List Nat, l.flatMap enN = enG l
  | [] => rfl
  | x :: l => by rw [List.flatMap_cons, enN_flat l]; rfl
theorem rd_drop {W : World} {p : Addr} {g : List Nat} (hr : Row W p (enG g)) (a n : Nat) {q : Addr} (hq : (g.drop a).take n ≠ [] → q = p.add (a * 1)) : RdL W 1 enN (some q) ((g.drop a).take n) := by
  refine ⟨fun h => (nomatch h), fun p' hp' => ?_⟩
  cases hp'
  rw [enN_flat]
  by_cases h0 : (g.drop a).take n = []
  · rw [h0]; intro i u hi; simp [enG] at hi
  · rw [hq h0, Nat.mul_one]
    have := row_sub hr a n
    unfold enG at this ⊢
    rwa [← List.map_drop, ← List.map_take] at this
theorem print_gives {W : World} (h : V6 W) {a : Option Addr} {l : List Nat} (hr : RdL W 1 enN a l) (hl : l.length ≤ 8) (hb : ∀ n ∈ l, n < 65536) (n c : Nat) (hn : n = l.length) :
    Gives Tryz.prog 142 #[.slice a n c] W fun v W' => v = .string (bs (jn 58 (l.map hx))) ∧ Below W.heap.size W W' := F142_fn (by
  unfold F142
  subst hn
  have hS := (Ow.start NoS W).nil 9 1 enStr
  refine Lp.of (fun s : Nat × Option Addr × Nat => [.slice s.2.1 ((l.take s.1).map fun n => bs (hx n)).length s.2.2, .int .i64 (s.1 : Int)]) (fun s W' => s.1 ≤ l.length ∧ Ow NoS W W' [.sl 9 1 enStr (.slice s.2.1 ((l.take s.1).map fun n => bs (hx n)).length s.2.2) ((l.take s.1).map fun n => bs (hx n))]) (fun s => l.length - s.1) (0, none, 0) rfl ⟨Nat.zero_le _, hS⟩ ?_
  rintro ⟨j, aj, cj⟩ W2 k ⟨hj, hS⟩ hk
  dsimp only at hj hS hk ⊢
  refine AsL.mk rfl (AsI.mk (If.dec (fun hlt => ?_) fun hge => ?_))
  · have hjl : j < l.length := by omega
    have hge := List.getElem?_eq_getElem hjl
    have hn2 := hb l[j] (List.getElem_mem hjl)
    refine (hr.bel hS.bel).get0 enN_len rfl rfl hge rfl (AsI.mk ?_)
    rw [w64, Nat.mod_eq_of_lt (by omega)]
    refine hS.callv (fu_gives (h.bel hS.bel) hn2) fun W3 hS => AsS.mk ?_
    refine hS.news (cs := enStr (bs (hx l[j]))) ⟨rfl, by decide, trivial⟩ (by kernel_rfl) fun b15 W4 hS => ?_
    have hlen : ((l.take j).map fun n => bs (hx n)).length ≤ 8 := by rw [List.length_map, List.length_take]; omega
    refine hS.app1 elStr 1 0 rfl rfl (by omega) fun a1 c1 W5 hS => AsL.mk rfl ?_
    have ef : (l.take (j + 1)).map (fun n => bs (hx n)) = (l.take j).map (fun n => bs (hx n)) ++ [bs (hx l[j])] := by rw [List.take_succ_eq_append_getElem hjl, List.map_append]; rfl
    rw [nsucc (by omega)]
    refine Eq.mp ?_ (hk (j + 1, a1, c1) W5 ⟨by dsimp only; omega, by dsimp only; rw [ef]; exact hS.pick [1] (by decide) rfl⟩ (by dsimp only; omega))
    dsimp only; rw [ef]
  · have e0 : l.take j = l := List.take_of_length_le (by omega)
    rw [e0] at hS ⊢
    have e : ((l.map fun n => bs (hx n)).map (·.data.toList)) = l.map hx := by
      rw [List.map_map]; exact List.map_congr_left fun n _ => bs_list (hx n)
    have hlong := jn_long 58 (l.map hx) fun x hx' => by obtain ⟨z, _, rfl⟩ := List.mem_map.1 hx'; exact (hx_len z).2
    rw [List.length_map] at hlong
    refine hS.callv (joinc_gives 58 (hS.get 0 rfl) (by rw [e]; omega)) fun W3 hS => AsS.mk ⟨?_, hS.bel⟩
    rw [e])
theorem print6_gives {W : World} (h : V6 W) (x : Nat × Nat) (h1 : x.1 < 18446744073709551616) (h2 : x.2 < 18446744073709551616) :
    Gives Tryz.prog 86 #[.agg (enW x).toArray] W fun v W' => v = .string (bs (text6 (gs x.1 x.2))) ∧ Below W.heap.size W W' := F86_fn (by
  unfold F86
  have hS := Ow.start NoS W
  refine hS.new fun b1 W1 hS => hS.ldw 0 rfl rfl (hS.callv (groups_gives x h1 h2 W1) fun W2 hS => ?_)
  have hl : (gs x.1 x.2).length = 8 := rfl
  have hlt := gs_lt x.1 x.2
  generalize gs x.1 x.2 = g at hl hlt ⊢
  have hg : (enG g).length = 8 := by rw [enG_len]; exact hl
  have hg1 : (enG g).all oneC = true := by unfold enG; rw [List.all_map, List.all_eq_true]; intro _ _; rfl
  refine hS.new fun b3 W3 hS => hS.stw 0 rfl (cs := enG g) rfl hg hg1 fun W4 hS => hS.ldw 0 rfl hg (hS.callv (run_gives hl W4) fun W5 hS => AsT2.mk (AsI.mk (AsI.mk ?_)))
  obtain ⟨r1, r2, r3, r4⟩ := run_g hl
  have tlen := text6_len hl
  unfold text6 txt at tlen ⊢
  generalize run (zs g) = r at r1 r2 r3 r4 tlen ⊢
  have hrow : ∀ {W' : World}, Ow NoS W W' [.cl b3 (enG g) 168, .cl b1 (enW x) 120] → Row W' ⟨b3, 0, none⟩ (enG g) := fun hS => cells_row (hS.get 0 rfl)
  have ml : ∀ n ∈ g.take r.1, n < 65536 := fun n hn => hlt n (List.mem_of_mem_take hn)
  have mr : ∀ n ∈ g.drop (r.1 + r.2), n < 65536 := fun n hn => hlt n (List.mem_of_mem_drop hn)
  refine If.beq (fun h0 => ?_) fun h0 => ?_
  · have h0' : r.2 = 0 := by omega
    rw [if_pos h0']
    refine SlB.mk 0 8 rfl rfl (by decide) (by decide) ?_
    have hrd := rd_drop (hrow hS) 0 8 (q := if 8 = 0 then ⟨b3, 0, none⟩ else Addr.add ⟨b3, 0, none⟩ (0 * 1)) fun _ => rfl
    rw [List.drop_zero, List.take_of_length_le (by omega)] at hrd
    exact hS.callv (print_gives (h.bel hS.bel) hrd (by omega) hlt _ _ (by omega)) fun W6 hS => AsS.mk ⟨rfl, hS.bel⟩
  · have h0' : ¬ r.2 = 0 := by omega
    rw [if_neg h0'] at tlen ⊢
    refine hS.any fun W7 hS => ?_
    have ew : IntKind.i64.wrap ((r.1 : Int) + (r.2 : Int)) = ((r.1 + r.2 : Nat) : Int) := by rw [wrap_i64 (by omega) (by omega)]; omega
    refine SlB.mk 0 r.1 rfl rfl (by omega) (by omega) ?_
    refine SlB.mk (r.1 + r.2) 8 (by rw [ew]; rfl) rfl (by omega) (by omega) ?_
    have hrd1 := rd_drop (hrow hS) 0 r.1 (q := if 8 = 0 then ⟨b3, 0, none⟩ else Addr.add ⟨b3, 0, none⟩ (0 * 1)) fun _ => rfl
    rw [List.drop_zero] at hrd1
    have mx : IntKind.i64.max = 9223372036854775807 := by kernel_rfl
    refine hS.callv (print_gives (h.bel hS.bel) hrd1 (by rw [List.length_take]; omega) ml _ _ (by rw [List.length_take]; omega)) fun W8 hS => AsS.mk ?_
    have e2 : (⟨#[58, 58]⟩ : ByteArray) = bs [58, 58] := rfl
    rw [List.length_append, List.length_cons, List.length_cons] at tlen
    rw [e2]
    refine ⟨by rw [bs_size, bs_size, mx]; simp only [List.length_cons, List.length_nil]; omega, ?_⟩
    have hrd2 := rd_drop (hrow hS) (r.1 + r.2) 8 (q := if 8 = r.1 + r.2 then ⟨b3, 0, none⟩ else Addr.add ⟨b3, 0, none⟩ ((r.1 + r.2) * 1)) fun hne => by
      rw [if_neg]
      intro e
      apply hne
      rw [List.drop_eq_nil_of_le (by omega)]; rfl
    rw [List.take_of_length_le (by rw [List.length_drop]; omega)] at hrd2
    refine hS.callv (print_gives (h.bel hS.bel) hrd2 (by rw [List.length_drop]; omega) mr _ _ (by rw [List.length_drop]; omega)) fun W9 hS => AsS.mk ?_
    rw [bs_app]
    refine ⟨by rw [bs_size, bs_size, mx]; simp only [List.length_append, List.length_cons, List.length_nil]; omega, ?_, hS.bel⟩
    rw [bs_app, List.append_assoc]; rfl)
def runX : Nat → List UInt8 → Nat → Option (List UInt8)
  | 0, _, _ => none
  | f + 1, s, m => if m > 0 ∨ s = [] then runX f (d16 (m % 16) :: s) (m / 16) else some s
theorem runX_hx {n : Nat} (h : n < 65536) : runX 6 [] n = some (hx n) := by
  unfold hx
  rw [runX, if_pos (.inr rfl)]
  by_cases h1 : n < 16
  · rw [if_pos h1, runX, if_neg (by simp; omega), Nat.mod_eq_of_lt h1]
  · rw [if_neg h1, runX, if_pos (.inl (by omega))]
    by_cases h2 : n < 256
    · rw [if_pos h2, runX, if_neg (by simp; omega), Nat.mod_eq_of_lt (show n / 16 < 16 by omega)]
    · rw [if_neg h2, runX, if_pos (.inl (by omega))]
      by_cases h3 : n < 4096
      · rw [if_pos h3, runX, if_neg (by simp; omega), Nat.div_div_eq_div_mul, Nat.mod_eq_of_lt (show n / (16 * 16) < 16 by omega)]
      · rw [if_neg h3, runX, if_pos (.inl (by omega)), runX, if_neg (by simp; omega)]
        simp only [Nat.div_div_eq_div_mul]
        rw [Nat.mod_eq_of_lt (show n / (16 * (16 * 16)) < 16 by omega)]
theorem xdig_table : ((List.range 16).all fun d => decide ((ByteArray.extract (⟨#[48, 49, 50, 51, 52, 53, 54, 55, 56, 57, 97, 98, 99, 100, 101, 102]⟩) d (d + 1)).data.toList = [d16 d])) = true := by kernel_rfl
theorem rdigits_gives {n : Nat} (hn : n < 65536) (W : World) : Gives Tryz.prog 147 #[.int .u16 (n : Int)] W fun v W' => v = .string (bs (hx n)) ∧ Below W.heap.size W W' := F147_fn (by
  unfold F147
  refine Lp.of (fun s : Nat × List UInt8 × Nat => [.string (bs s.2.1), .int .u16 (s.2.2 : Int)]) (fun s W' => runX s.1 s.2.1 s.2.2 = some (hx n) ∧ s.2.2 < 65536 ∧ s.2.1.length + s.1 ≤ 6 ∧ W' = W) (fun s => s.1) (6, [], n) rfl ⟨runX_hx hn, hn, by simp, rfl⟩ ?_
  rintro ⟨f, s, m⟩ W1 k ⟨hr, hm, hl, rfl⟩ hk
  dsimp only at hr hm hl hk ⊢
  cases f with
  | zero => cases hr
  | succ f =>
    rw [runX] at hr
    refine AsS.mk (AsI.mk (Join.or ?_))
    refine If.ofB (p := m > 0 ∨ s = []) (by
      rw [Bool.or_eq_true, decide_eq_true_eq, str_beq, bs_list, decide_eq_true_eq]
      exact ⟨fun h => h.imp (fun h => by omega) id, fun h => h.imp (fun h => by omega) id⟩) (fun h => ?_) fun h => ?_
    · rw [if_pos h] at hr
      have e1 : (m : Int).tmod 16 = ((m % 16 : Nat) : Int) := rfl
      have e2 : (m : Int).tdiv 16 = ((m / 16 : Nat) : Int) := rfl
      have hd := of_decide_eq_true (List.all_eq_true.1 xdig_table (m % 16) (List.mem_range.2 (by omega)))
      have hx' : ByteArray.extract (⟨#[48, 49, 50, 51, 52, 53, 54, 55, 56, 57, 97, 98, 99, 100, 101, 102]⟩) (m % 16) (m % 16 + 1) = bs [d16 (m % 16)] := by rw [← hd, bs_data]
      have w1 : IntKind.u16.wrap (((m % 16 : Nat) : Int) + 1) = ((m % 16 + 1 : Nat) : Int) := by
        have := w16 (m % 16 + 1)
        rw [show (m % 16 + 1) % 65536 = m % 16 + 1 from Nat.mod_eq_of_lt (by omega)] at this
        exact this
      have w2 : IntKind.u16.wrap ((m / 16 : Nat) : Int) = ((m / 16 : Nat) : Int) := by rw [w16, Nat.mod_eq_of_lt (by omega)]
      rw [e1, e2, w1, w2]
      refine ⟨by decide, by decide, SlB.mk (m % 16) (m % 16 + 1) rfl rfl (by omega) (show m % 16 + 1 ≤ 16 by omega) ?_⟩
      rw [hx', bs_app]
      refine ⟨by rw [bs_size, bs_size]; have : IntKind.i64.max = 9223372036854775807 := by kernel_rfl
                 rw [this]; simp only [List.length_singleton]; omega, by decide, ?_⟩
      exact hk (f, [d16 (m % 16)] ++ s, m / 16) W1 ⟨hr, by dsimp only; omega, by simp; omega, rfl⟩ (by dsimp only; omega)
    · rw [if_neg h] at hr
      cases hr
      exact ⟨rfl, Below.refl _ _⟩)
end Go.Proofs.YtngecegnlhmnlaaGreatDoor.Si
namespace Go.Proofs
open Go.Shelf
def Tryz.lays137_ren : Go.Shelf.Ren := ⟨fun | 137 => 221 | 217 => 215 | 266 => 229 | n => n, fun | 9 => 9 | 5 => 5 | 3 => 3 | n => n, fun | n => n⟩
theorem Tryz.lays137 : Go.Proofs.Lays.n137 Tryz.prog Tryz.lays137_ren := {
  mixed := by kernel_rfl
  f137 := Tryz.func221.trans (congrArg some (by kernel_rfl))
  f217 := Tryz.func215.trans (congrArg some (by kernel_rfl))
  f266 := Tryz.func229.trans (congrArg some (by kernel_rfl))
  t3 := Tryz.underlying3
  a3 := Tryz.isAgg3
  z3 := Tryz.sizeOf3
  v3 := Tryz.zeroValue3
  t5 := Tryz.underlying5
  a5 := Tryz.isAgg5
  z5 := Tryz.sizeOf5
  v5 := Tryz.zeroValue5
  t9 := Tryz.underlying9
  a9 := Tryz.isAgg9
  z9 := Tryz.sizeOf9
  v9 := Tryz.zeroValue9 }
open Go.RowKit in
theorem Tryz.strings_IndexByte (s : ByteArray) (c : Int) (w : World) :
    Calls Tryz.prog 221 #[.string s, .int .u8 c] w fun e w' => e = .returned (.int .i64 (Lib.indexByte s.data.toList c.toNat.toUInt8)) ∧ w' = w := Any.strings_IndexByte Tryz.lays137 s c w
def Tryz.lays145_ren : Go.Shelf.Ren := ⟨fun | 145 => 156 | 220 => 193 | 219 => 199 | 217 => 215 | 225 => 216 | 224 => 217 | 267 => 218 | 266 => 229 | 314 => 230 | n => n, fun | 9 => 9 | 4 => 4 | 59 => 182 | 3 => 3 | 5 => 5 | 46 => 213 | 146 => 202 | 51 => 122 | n => n, fun | 1 => 0 | n => n⟩
theorem Tryz.lays145 : Go.Proofs.Lays.n145 Tryz.prog Tryz.lays145_ren := {
  mixed := by kernel_rfl
  f145 := Tryz.func156.trans (congrArg some (by kernel_rfl))
  f217 := Tryz.func215.trans (congrArg some (by kernel_rfl))
  f219 := Tryz.func199.trans (congrArg some (by kernel_rfl))
  f220 := Tryz.func193.trans (congrArg some (by kernel_rfl))
  f224 := Tryz.func217.trans (congrArg some (by kernel_rfl))
  f225 := Tryz.func216.trans (congrArg some (by kernel_rfl))
  f266 := Tryz.func229.trans (congrArg some (by kernel_rfl))
  f267 := Tryz.func218.trans (congrArg some (by kernel_rfl))
  f314 := Tryz.func230.trans (congrArg some (by kernel_rfl))
  t3 := Tryz.underlying3
  a3 := Tryz.isAgg3
  z3 := Tryz.sizeOf3
  v3 := Tryz.zeroValue3
  t4 := Tryz.underlying4
  a4 := Tryz.isAgg4
  z4 := Tryz.sizeOf4
  v4 := Tryz.zeroValue4
  t5 := Tryz.underlying5
  a5 := Tryz.isAgg5
  z5 := Tryz.sizeOf5
  v5 := Tryz.zeroValue5
  t9 := Tryz.underlying9
  a9 := Tryz.isAgg9
  z9 := Tryz.sizeOf9
  v9 := Tryz.zeroValue9
  t46 := Tryz.underlying213
  a46 := Tryz.isAgg213
  z46 := Tryz.sizeOf213
  v46 := Tryz.zeroValue213
  t51 := Tryz.underlying122
  a51 := Tryz.isAgg122
  z51 := Tryz.sizeOf122
  v51 := Tryz.zeroValue122
  t59 := Tryz.underlying182
  a59 := Tryz.isAgg182
  z59 := Tryz.sizeOf182
  v59 := Tryz.zeroValue182
  t146 := Tryz.underlying202
  a146 := Tryz.isAgg202
  z146 := Tryz.sizeOf202
  v146 := Tryz.zeroValue202
  g1 := by kernel_rfl }
open Go.RowKit Go.Lib in
theorem Tryz.strings_Cut (s sep : ByteArray) (m : Int) (w : World) (hs : s.size < 4294967281) (hm : w.cell? ⟨0, 0, none⟩ = some (.int .i64 m)) :
    Calls Tryz.prog 156 #[.string s, .string sep] w fun e w' => e = .returned (.tuple #[.string ⟨(Lib.cut s.data.toList sep.data.toList).1.toArray⟩, .string ⟨(Lib.cut s.data.toList sep.data.toList).2.1.toArray⟩, .bool (Lib.cut s.data.toList sep.data.toList).2.2]) ∧ ∃ n, w' = w.drewN n := Any.strings_Cut Tryz.lays145 s sep m w hs hm
end Go.Proofs
namespace Go.Proofs.YtngecegnlhmnlaaGreatDoor.Si
open Go Go.RowKit Go.Vc Go.Proofs.YtngecegnlhmnlaaGreatDoor Go.Proofs.YtngecegnlhmnlaaGreatDoor.Fs Go.Proofs.YtngecegnlhmnlaaGreatDoor.Fo
abbrev hexs : List UInt8 := [48, 49, 50, 51, 52, 53, 54, 55, 56, 57, 97, 98, 99, 100, 101, 102, 65, 66, 67, 68, 69, 70]
def hvB (c : UInt8) : Bool := match hv c with
  | some d => decide (d < 16 ∧ (48 ≤ c.toNat ∧ c.toNat ≤ 57 ∧ d = c.toNat - 48 ∨ 97 ≤ c.toNat ∧ c.toNat ≤ 102 ∧ d = c.toNat - 87 ∨ 65 ≤ c.toNat ∧ c.toNat ≤ 70 ∧ d = c.toNat - 55) ∧ (Lib.indexByte hexs c = (d : Int) ∧ d < 16 ∨ (10 ≤ d ∧ Lib.indexByte hexs c = (d : Int) + 6)))
  | none => decide (¬ (48 ≤ c.toNat ∧ c.toNat ≤ 57) ∧ ¬ (97 ≤ c.toNat ∧ c.toNat ≤ 102) ∧ ¬ (65 ≤ c.toNat ∧ c.toNat ≤ 70) ∧ Lib.indexByte hexs c = -1)
theorem hv_cases : ((List.range 256).all fun n => hvB (UInt8.ofNat n)) = true := by decide +kernel
theorem hvB_at (c : UInt8) : hvB c = true := by
  have h := List.all_eq_true.1 hv_cases c.toNat (List.mem_range.2 c.toNat_lt)
  have e : UInt8.ofNat c.toNat = c := UInt8.ofNat_toNat
  rw [e] at h
  exact h
theorem hv_some {c : UInt8} {d : Nat} (h : hv c = some d) : d < 16 ∧ (48 ≤ c.toNat ∧ c.toNat ≤ 57 ∧ d = c.toNat - 48 ∨ 97 ≤ c.toNat ∧ c.toNat ≤ 102 ∧ d = c.toNat - 87 ∨ 65 ≤ c.toNat ∧ c.toNat ≤ 70 ∧ d = c.toNat - 55) ∧ (Lib.indexByte hexs c = (d : Int) ∧ d < 16 ∨ (10 ≤ d ∧ Lib.indexByte hexs c = (d : Int) + 6)) := by
  have := hvB_at c
  unfold hvB at this
  rw [h] at this
  exact of_decide_eq_true this
theorem hv_none {c : UInt8} (h : hv c = none) : ¬ (48 ≤ c.toNat ∧ c.toNat ≤ 57) ∧ ¬ (97 ≤ c.toNat ∧ c.toNat ≤ 102) ∧ ¬ (65 ≤ c.toNat ∧ c.toNat ≤ 70) ∧ Lib.indexByte hexs c = -1 := by
  have := hvB_at c
  unfold hvB at this
  rw [h] at this
  exact of_decide_eq_true this
theorem shl_or4 {x y : Nat} (hx : x < 65536) (hy : y < 16) :
    IntKind.u16.wrap ((((BitVec.ofInt (IntKind.u16).bits (IntKind.u16.wrap ((x : Int) * 2 ^ (min (Int.toNat 4) (IntKind.u16).bits)))) ||| (BitVec.ofInt (IntKind.u16).bits (IntKind.u16.wrap (y : Int)))).toNat : Int)) = (((x * 16 + y) % 65536 : Nat) : Int) := by
  have e1 : ((x : Int) * 2 ^ (min (Int.toNat 4) (IntKind.u16).bits)) = ((x * 16 : Nat) : Int) := by
    have : (2 ^ (min (Int.toNat 4) (IntKind.u16).bits) : Int) = ((16 : Nat) : Int) := by decide
    rw [this]; omega
  have w2 : IntKind.u16.wrap (y : Int) = (y : Int) := by rw [w16, Nat.mod_eq_of_lt (by omega)]
  rw [e1, w2]
  have b : (IntKind.u16).bits = 16 := rfl
  rw [b]
  have e2 : ∀ n : Nat, n < 65536 → (BitVec.ofInt 16 (n : Int)).toNat = n := fun n h => by
    rw [BitVec.toNat_ofInt]; omega
  rw [w16 (x * 16), BitVec.toNat_or, e2 _ (Nat.mod_lt _ (by decide)), e2 y (by omega), w16]
  have e3 : x * 16 % 65536 = x % 4096 * 16 := by omega
  have e4 := Nat.shiftLeft_add_eq_or_of_lt (i := 4) (b := y) (by omega) (x % 4096)
  rw [Nat.shiftLeft_eq] at e4
  have e5 : x % 4096 * 16 ||| y = x % 4096 * 16 + y := e4.symm
  rw [e3, e5]; omega
theorem ixb_gives (s : ByteArray) (c : Int) (W : World) : Gives Tryz.prog 221 #[.string s, .int .u8 c] W fun v W' => v = .int .i64 (Lib.indexByte s.data.toList c.toNat.toUInt8) ∧ Below W.heap.size W W' :=
  Calls.mono (Tryz.strings_IndexByte s c W) fun e w' hh => by
    obtain ⟨he, rfl⟩ := hh
    exact ⟨_, he, rfl, Below.refl _ _⟩
theorem str_get {s : ByteArray} {j : Nat} (h : j < s.data.toList.length) : s[j]? = some s.data.toList[j] := str_at (List.getElem?_eq_getElem h)
theorem gv_drop {l : List UInt8} {j : Nat} (h : j < l.length) (a : Nat) : gv (l.drop j) a = (hv l[j]).bind fun d => gv (l.drop (j + 1)) ((a * 16 + d) % 65536) := by
  rw [List.drop_eq_getElem_cons h, gv]
theorem group_gives (s : ByteArray) (hs : s.size ≤ 10000000) (W : World) :
    Gives Tryz.prog 202 #[.string s] W fun v W' => (∃ n : Nat, v = .tuple #[.int .u16 (n : Int), .bool (grp s.data.toList).isSome] ∧ ∀ m, grp s.data.toList = some m → n = m) ∧ Below W.heap.size W W' := F202_fn (by
  unfold F202
  generalize hl : s.data.toList = l
  have hsz : l.length = s.size := by rw [← hl]; exact Array.length_toList
  have hS := Ow.start NoS W
  refine Lp.of (fun t : Nat × Nat => [.int .u16 0, .bool false, .int .u16 (t.1 : Int), .int .i64 (t.2 : Int)]) (fun t W' => t.2 ≤ l.length ∧ t.1 < 65536 ∧ gv (l.drop t.2) t.1 = gv l 0 ∧ Ow NoS W W' []) (fun t => l.length - t.2) (0, 0) rfl ⟨Nat.zero_le _, by decide, rfl, hS⟩ ?_
  rintro ⟨a, j⟩ W1 k ⟨hj, ha, hg, hS⟩ hk
  dsimp only at hj ha hg hS hk ⊢
  refine AsI.mk (AsB.mk (AsI.mk (AsI.mk (If.dec (fun hlt => ?_) fun hge => ?_))))
  · have hjl : j < l.length := by omega
    rw [gv_drop hjl] at hg
    refine ⟨l[j], by omega, by rw [Int.toNat_natCast]; subst hl; exact str_get hjl, ?_⟩
    generalize l[j] = c at hg ⊢
    refine hS.callv (ixb_gives _ (c.toNat : Int) W1) fun W2 hS => AsI.mk ?_
    have e1 : ((c.toNat : Int)).toNat.toUInt8 = c := by rw [Int.toNat_natCast]; exact UInt8.ofNat_toNat
    have e2 : (⟨#[48, 49, 50, 51, 52, 53, 54, 55, 56, 57, 97, 98, 99, 100, 101, 102, 65, 66, 67, 68, 69, 70]⟩ : ByteArray).data.toList = hexs := rfl
    rw [e1, e2]
    cases hd : hv c with
    | none =>
      rw [hd, Option.bind_none] at hg
      rw [(hv_none hd).2.2.2]
      refine If.pos rfl ⟨⟨0, ?_, fun m hm => ?_⟩, hS.bel⟩
      · have : grp l = none := by unfold grp; rw [← hg]; simp
        rw [this]; rfl
      · have : grp l = none := by unfold grp; rw [← hg]; simp
        rw [this] at hm; cases hm
    | some d =>
      rw [hd, Option.bind_some] at hg
      obtain ⟨hd, _, hi⟩ := hv_some hd
      generalize Lib.indexByte hexs c = i at hi ⊢
      refine If.dec (fun h => absurd h (by omega)) fun _ => Join.use fun J hJ => ?_
      have go : J (d : Int) W2 := by
        rw [hJ]; dsimp only
        rw [shl_or4 ha hd, nsucc (by omega)]
        exact ⟨by decide, hk ((a * 16 + d) % 65536, j + 1) W2 ⟨hjl, Nat.mod_lt _ (by decide), hg, hS⟩ (by dsimp only; omega)⟩
      refine If.dec (fun h => ?_) fun h => ?_
      · have e : IntKind.i64.wrap (i - 6) = (d : Int) := by rw [wrap_i64 (by omega) (by omega)]; omega
        rw [e]; exact go
      · have e : i = (d : Int) := by omega
        rw [e]; exact go
  · have hjl : j = l.length := by omega
    rw [hjl, List.drop_length, gv] at hg
    have e : (decide ((s.size : Int) ≥ 1) && decide ((s.size : Int) ≤ 4)) = (grp l).isSome := by
      unfold grp
      rw [← hg, ← Bool.decide_and]
      by_cases h : 1 ≤ l.length ∧ l.length ≤ 4
      · rw [if_pos h, decide_eq_true (by omega)]; rfl
      · rw [if_neg h, decide_eq_false (by omega)]; rfl
    refine Join.and ?_
    rw [e]
    refine ⟨⟨a, rfl, fun m hm => ?_⟩, hS.bel⟩
    unfold grp at hm
    split at hm
    · rw [← hg] at hm; cases hm; rfl
    · cases hm)
theorem rgroup_gives (s : ByteArray) (hs : s.size ≤ 10000000) (W : World) :
    Gives Tryz.prog 196 #[.string s] W fun v W' => (∃ n : Nat, v = .tuple #[.int .u16 (n : Int), .bool (grp s.data.toList).isSome] ∧ ∀ m, grp s.data.toList = some m → n = m) ∧ Below W.heap.size W W' := F196_fn (by
  unfold F196
  generalize hl : s.data.toList = l
  have hsz : l.length = s.size := by rw [← hl]; exact Array.length_toList
  refine Lp.of (fun t : Nat × Nat => [.int .u16 (t.1 : Int), .int .u16 0, .bool false, .int .i64 (t.2 : Int)]) (fun t W' => t.2 ≤ l.length ∧ t.1 < 65536 ∧ gv (l.drop t.2) t.1 = gv l 0 ∧ W' = W) (fun t => l.length - t.2) (0, 0) rfl ⟨Nat.zero_le _, by decide, rfl, rfl⟩ ?_
  rintro ⟨a, j⟩ W1 k ⟨hj, ha, hg, rfl⟩ hk
  dsimp only at hj ha hg hk ⊢
  have bel := Below.refl W1.heap.size W1
  refine AsI.mk (AsI.mk (AsB.mk (AsI.mk (If.dec (fun hlt => ?_) fun hge => ?_))))
  · have hjl : j < l.length := by omega
    rw [gv_drop hjl] at hg
    refine ⟨l[j], by omega, by rw [Int.toNat_natCast]; subst hl; exact str_get hjl, ?_⟩
    generalize l[j] = c at hg ⊢
    have go : ∀ d o : Nat, hv c = some d → o ≤ c.toNat → d = c.toNat - o → d < 16 → k [.int .u16 (IntKind.u16.wrap ((IntKind.u16.wrap ((IntKind.u16.wrap (16 * (a : Int))) + (IntKind.u16.wrap (c.toNat : Int)))) - (o : Int))), .int .u16 0, .bool false, .int .i64 (IntKind.i64.wrap ((j : Int) + 1))] W1 := fun d o hd ho e hd16 => by
      have hcl := c.toNat_lt
      have e1 : IntKind.u16.wrap (16 * (a : Int)) = ((16 * a % 65536 : Nat) : Int) := by rw [← w16 (16 * a)]; rfl
      have e2 : IntKind.u16.wrap (c.toNat : Int) = (c.toNat : Int) := by rw [w16, Nat.mod_eq_of_lt (by omega)]
      have e3 : IntKind.u16.wrap (((16 * a % 65536 : Nat) : Int) + (c.toNat : Int)) = (((16 * a % 65536 + c.toNat) % 65536 : Nat) : Int) := by rw [← Int.natCast_add, w16]
      have e4 : IntKind.u16.wrap ((((16 * a % 65536 + c.toNat) % 65536 : Nat) : Int) - (o : Int)) = (((a * 16 + d) % 65536 : Nat) : Int) := by
        have : ∀ x : Int, IntKind.u16.wrap x = x % 65536 := fun x => rfl
        rw [this]; omega
      rw [e1, e2, e3, e4, nsucc (by omega)]
      rw [hd, Option.bind_some] at hg
      exact hk ((a * 16 + d) % 65536, j + 1) W1 ⟨hjl, Nat.mod_lt _ (by decide), hg, rfl⟩ (by dsimp only; omega)
    refine Join.and ?_
    refine Join.use fun J1 hJ1 => ?_
    refine If.ofB (p := 48 ≤ c.toNat ∧ c.toNat ≤ 57) (by rw [← Bool.decide_and, decide_eq_true_eq]; omega) (fun h => ?_) fun h => ?_
    · rw [hJ1]; dsimp only
      cases hd : hv c with
      | none => exact absurd h (hv_none hd).1
      | some d => have hc := hv_some hd; exact go d 48 hd (by omega) (by omega) (by omega)
    refine Join.and ?_
    refine Join.use fun J2 hJ2 => ?_
    refine If.ofB (p := 97 ≤ c.toNat ∧ c.toNat ≤ 102) (by rw [← Bool.decide_and, decide_eq_true_eq]; omega) (fun h2 => ?_) fun h2 => ?_
    · rw [hJ2]; dsimp only
      rw [hJ1]; dsimp only
      cases hd : hv c with
      | none => exact absurd h2 (hv_none hd).2.1
      | some d => have hc := hv_some hd; exact go d 87 hd (by omega) (by omega) (by omega)
    refine Join.and ?_
    refine If.ofB (p := 65 ≤ c.toNat ∧ c.toNat ≤ 70) (by rw [← Bool.decide_and, decide_eq_true_eq]; omega) (fun h3 => ?_) fun h3 => ?_
    · rw [hJ2]; dsimp only
      rw [hJ1]; dsimp only
      cases hd : hv c with
      | none => exact absurd h3 (hv_none hd).2.2.1
      | some d => have hc := hv_some hd; exact go d 55 hd (by omega) (by omega) (by omega)
    · have hn : hv c = none := by
        cases hd : hv c with
        | none => rfl
        | some d => have hc := hv_some hd; omega
      rw [hn, Option.bind_none] at hg
      have : grp l = none := by unfold grp; rw [← hg]; simp
      rw [this]
      exact ⟨⟨0, rfl, fun m hm => by cases hm⟩, bel⟩
  · have hjl : j = l.length := by omega
    rw [hjl, List.drop_length, gv] at hg
    have e : (decide ((s.size : Int) > 0) && decide ((s.size : Int) < 5)) = (grp l).isSome := by
      unfold grp
      rw [← hg, ← Bool.decide_and]
      by_cases h : 1 ≤ l.length ∧ l.length ≤ 4
      · rw [if_pos h, decide_eq_true (by omega)]; rfl
      · rw [if_neg h, decide_eq_false (by omega)]; rfl
    refine Join.and ?_
    rw [e]
    refine ⟨⟨a, rfl, fun m hm => ?_⟩, bel⟩
    unfold grp at hm
    split at hm
    · rw [← hg] at hm; cases hm; rfl
    · cases hm)
theorem ccut_gives (s : ByteArray) (hs : s.size ≤ 10000000) (W : World) :
    Gives Tryz.prog 165 #[.string s] W fun v W' => v = .int .i64 (match cc s.data.toList with | some p => (p.1.length : Int) | none => -1) ∧ Below W.heap.size W W' := F165_fn (by
  unfold F165
  generalize hl : s.data.toList = l
  have hsz : l.length = s.size := by rw [← hl]; exact Array.length_toList
  refine Lp.of (fun j : Nat => [.int .i64 0, .int .i64 (j : Int)]) (fun j W' => j ≤ l.length ∧ (match cc l with | some p => (p.1.length : Int) | none => -1) = (match cc (l.drop j) with | some p => (p.1.length : Int) + j | none => -1) ∧ W' = W) (fun j => l.length - j) 0 rfl ⟨Nat.zero_le _, by rw [List.drop_zero]; cases cc l <;> simp, rfl⟩ ?_
  rintro j W1 k ⟨hj, hg, rfl⟩ hk
  have bel := Below.refl W1.heap.size W1
  have ej : IntKind.i64.wrap ((j : Int) + 1) = ((j + 1 : Nat) : Int) := nsucc (by omega)
  refine AsI.mk (AsI.mk ?_)
  rw [ej]
  refine If.dec (fun hlt => ?_) fun hge => ?_
  · have hj1 : j + 1 < l.length := by omega
    have hjl : j < l.length := by omega
    have hdr : l.drop j = l[j] :: l[j + 1] :: l.drop (j + 2) := by rw [List.drop_eq_getElem_cons hjl, List.drop_eq_getElem_cons hj1]
    have hdr1 : l.drop (j + 1) = l[j + 1] :: l.drop (j + 2) := List.drop_eq_getElem_cons hj1
    refine ⟨l[j], by omega, by rw [Int.toNat_natCast]; subst hl; exact str_get hjl, ?_⟩
    rw [hdr, cc] at hg
    have no : ¬ (l[j] = 58 ∧ l[j + 1] = 58) → k [.int .i64 0, .int .i64 ((j + 1 : Nat) : Int)] W1 := fun h => by
      rw [if_neg h, ← hdr1] at hg
      refine hk (j + 1) W1 ⟨hjl, ?_, rfl⟩ (by omega)
      rw [hg]
      cases cc (l.drop (j + 1)) with
      | none => rfl
      | some p =>
        show ((p.1.length + 1 : Nat) : Int) + (j : Int) = (p.1.length : Int) + ((j + 1 : Nat) : Int)
        omega
    have yes : (l[j] = 58 ∧ l[j + 1] = 58) → (match cc l with | some p => (p.1.length : Int) | none => -1) = (j : Int) := fun h => by
      rw [hg, if_pos h]; simp
    clear hg hdr hdr1
    have e2 : s[j + 1]? = some l[j + 1] := by subst hl; exact str_get hj1
    generalize l[j] = c at no yes ⊢
    generalize l[j + 1] = d at no yes e2 ⊢
    refine Join.use fun J hJ => If.beq (fun h => ⟨d, by omega, by rw [Int.toNat_natCast]; exact e2, ?_⟩) fun h => ?_
    · rw [hJ]; dsimp only
      refine If.beq (fun h2 => ?_) fun h2 => ?_
      · rw [yes ⟨UInt8.toNat_inj.1 (by simpa using (show c.toNat = 58 by omega)), UInt8.toNat_inj.1 (by simpa using (show d.toNat = 58 by omega))⟩]
        exact ⟨rfl, bel⟩
      · exact no fun e => h2 (by rw [e.2]; rfl)
    · rw [hJ]
      exact If.neg rfl (no fun e => h (by rw [e.1]; rfl))
  · have h1 : l.length ≤ j + 1 := by omega
    have : cc (l.drop j) = none := by
      cases hd : l.drop j with
      | nil => rfl
      | cons c r =>
        have := congrArg List.length hd
        rw [List.length_drop, List.length_cons] at this
        have hr : r = [] := List.eq_nil_of_length_eq_zero (by omega)
        rw [hr]; rfl
    rw [hg, this]
    exact ⟨rfl, bel⟩)
theorem rof_gives {g : List Nat} (hl : g.length = 8) (hg : ∀ n ∈ g, n < 65536) (W : World) :
    Gives Tryz.prog 167 #[.agg (enG g).toArray] W fun v W' => v = .agg (enW (halves (ofG g))).toArray ∧ Below W.heap.size W W' := F167_fn (by
  unfold F167
  have hS := Ow.start NoS W
  refine hS.new fun b1 W1 hS => hS.new fun b2 W2 hS => BldC.mk (cs := enW (0, 0)) trivial rfl (hS.new fun b3 W3 hS => hS.stw 0 rfl (cs := enW (0, 0)) rfl rfl rfl fun W4 hS => ?_)
  have bd : ∀ (m : List Nat), (∀ n ∈ m, n < 65536) → m.length ≤ 3 → ofG m < 281474976710656 := fun m hm h3 => by
    have h1 := ofG_bound m hm
    have h4 : 65536 ^ m.length ≤ 65536 ^ 3 := Nat.pow_le_pow_right (by decide) h3
    exact Nat.lt_of_lt_of_le h1 h4
  have hS0 : Ow NoS W W4 [.cl b3 (enW (ofG (g.take 0), ofG ((g.drop 4).take 0))) 126, .cl b2 (enW (0, 0)) 126, .cl b1 (enG g) 168] := hS
  refine Lp.of (fun j : Nat => [.int .i64 (j : Int)]) (fun j W' => j ≤ 4 ∧ Ow NoS W W' [.cl b3 (enW (ofG (g.take j), ofG ((g.drop 4).take j))) 126, .cl b2 (enW (0, 0)) 126, .cl b1 (enG g) 168]) (fun j => 4 - j) 0 rfl ⟨by omega, hS0⟩ ?_
  rintro j W5 k ⟨hj, hS⟩ hk
  refine AsI.mk (If.dec (fun hlt => ?_) fun hge => ?_)
  · have hj4 : j < 4 := by omega
    have hjl : j < g.length := by omega
    have hjr : j < (g.drop 4).length := by rw [List.length_drop]; omega
    have hj4l : 4 + j < g.length := by omega
    have s1 := ofG_take hjl
    have s2 := ofG_take hjr
    have b1' := bd (g.take j) (fun n hn => hg n (List.mem_of_mem_take hn)) (by rw [List.length_take]; omega)
    have b2' := bd ((g.drop 4).take j) (fun n hn => hg n (List.mem_of_mem_drop (List.mem_of_mem_take hn))) (by rw [List.length_take]; omega)
    have g1 := hg g[j] (List.getElem_mem hjl)
    have g2 := hg g[4 + j] (List.getElem_mem hj4l)
    have er : (g.drop 4)[j] = g[4 + j] := List.getElem_drop ..
    rw [er] at s2
    refine hS.ld 0 rfl rfl (AsI.mk ?_)
    refine IdxA.to rfl (by omega) ?_
    rw [Nat.mul_one]
    refine hS.ldA 2 rfl (enG_at hjl) (AsI.mk ?_)
    refine hS.ldA 0 rfl rfl (AsI.mk ?_)
    have e4 : IntKind.i64.wrap (4 + (j : Int)) = ((4 + j : Nat) : Int) := by rw [wrap_i64 (by omega) (by omega)]; omega
    rw [e4]
    refine IdxA.to rfl (by omega) ?_
    rw [Nat.mul_one]
    refine hS.ldA 2 rfl (enG_at hj4l) (AsI.mk (hS.any fun W6 hS => ?_))
    have step : ∀ x y : Nat, x < 281474976710656 → y < 65536 → IntKind.u64.wrap ((IntKind.u64.wrap (65536 * (x : Int))) + (IntKind.u64.wrap (y : Int))) = ((x * 65536 + y : Nat) : Int) := fun x y hx hy => by
      have : ∀ z : Int, IntKind.u64.wrap z = z % 18446744073709551616 := fun z => rfl
      rw [this, this, this]; omega
    dsimp only
    rw [step _ _ b1' g1, step _ _ b2' g2, ← s1, ← s2]
    refine hS.st0 0 rfl _ rfl rfl rfl Nat.zero_lt_two fun W7 hS => hS.stlA 2 rfl (enG_at hj4l) (hS.st1 0 rfl (enW (ofG (g.take (j + 1)), ofG ((g.drop 4).take (j + 1)))) rfl rfl rfl Nat.one_lt_two fun W8 hS => ?_)
    rw [nsucc (by omega)]
    exact hk (j + 1) W8 ⟨hj4, hS⟩ (by omega)
  · have hj4 : j = 4 := by omega
    subst hj4
    have e : (ofG (g.take 4), ofG ((g.drop 4).take 4)) = halves (ofG g) := by
      have h1 := ofG_append (g.take 4) (g.drop 4)
      rw [List.take_append_drop] at h1
      have hd : (g.drop 4).length = 4 := by rw [List.length_drop, hl]
      have h2 := ofG_bound (g.drop 4) fun n hn => hg n (List.mem_of_mem_drop hn)
      rw [hd] at h1 h2
      rw [List.take_of_length_le (show (g.drop 4).length ≤ 4 by omega)]
      unfold halves
      rw [h1]
      have e64 : (65536 ^ 4 : Nat) = 18446744073709551616 := by decide
      rw [e64] at h2 ⊢
      have q1 : (ofG (g.take 4) * 18446744073709551616 + ofG (g.drop 4)) / 18446744073709551616 = ofG (g.take 4) := by omega
      have q2 : (ofG (g.take 4) * 18446744073709551616 + ofG (g.drop 4)) % 18446744073709551616 = ofG (g.drop 4) := by omega
      rw [q1, q2]
    rw [e] at hS
    refine hS.ldw 0 rfl rfl (hS.stw 1 rfl (cs := enW (halves (ofG g))) rfl rfl rfl fun W6 hS => hS.ldw 1 rfl rfl ⟨rfl, hS.bel⟩))
end Go.Proofs.YtngecegnlhmnlaaGreatDoor.Si
namespace Go.Vc
open Go Go.RowKit
section
variable {S : Nat → Prop} {W0 W : World} {us rs : List Res} {P : Program}
theorem Ow.yieldF {f : FuncId} {lb rb args : Array Value} {kp : List PanicEntry → World → Prop} {k : Value → World → Prop} {Q : Value → List Res → Prop} (h : Ow S W0 W (us ++ rs)) (hc : Ok P f)
    (hg : Ow (foot us) W W us → Gives P f (lb ++ args ++ rb) W fun v W' => ∃ us', Q v us' ∧ Ow (foot us) W W' us') (hk : ∀ v us' W', Q v us' → Ow S W0 W' (us' ++ rs) → k v W') : YieldK P (callSem (.func (.func f) lb rb) args) W kp k :=
  YieldK.func hc (hg h.loc) fun v W' hv => by
    obtain ⟨us', hq, ho⟩ := hv
    exact hk v us' W' hq (h.frame ho)
theorem Ow.copyAt {α : Type} {t el t' : TypeId} {size : Nat} {enc : α → List Value} {b o n1 c1 : Nat} {cs : List Value} {ys : List α} {a1 a2 : Option Addr} {n2 c2 : Nat} {ty : TypeId} {k : Value → World → Prop} (h : Ow S W0 W rs) (E : ElT P t el size enc) (i : Nat) (hi : rs[i]? = some (.cl b cs t'))
    (ha : ys ≠ [] → a1 = some (Addr.add ⟨b, 0, none⟩ o)) (hfit : o + ys.length * size ≤ cs.length) (hle : ys.length ≤ n1) (hr : RdL W size enc a2 ys) (hn : n2 = ys.length)
    (hk : ∀ W', Ow S W0 W' (rs.set i (.cl b (cs.take o ++ ys.flatMap enc ++ cs.drop (o + ys.length * size)) t')) → k (.int .i64 (ys.length : Int)) W') :
    RunW P (Builtin.copy_ #[t, t] ty #[.slice a1 n1 c1, .slice a2 n2 c2]) W k := by
  subst hn
  obtain ⟨inf, z, hq, hz, hs, hzs, hbb⟩ := E.inf
  have hg : W.heap[b]? = some (.cells cs.toArray t' (0, 0)) := h.get i hi
  have hfl := flat_len E.len ys
  have hmin : Nat.min ys.length n1 = ys.length := Nat.min_eq_left hle
  have hrun : ∃ W', (Builtin.copy_ #[t, t] ty #[.slice a1 n1 c1, .slice a2 ys.length c2]).run P W = .ok (goInt ys.length) W' ∧ Fr (fun x => x = b) W W' ∧ W'.heap[b]? = some (.cells (cs.take o ++ ys.flatMap enc ++ cs.drop (o + ys.length * size)).toArray t' (0, 0)) := by
    by_cases h0 : ys = []
    · subst h0
      refine ⟨W, ?_, Fr.refl _ _, ?_⟩
      · cases a1 <;> cases a2 <;> simp [Builtin.copy_, run_underlying E.ty, Builtin.lenOf, Builtin.firstCells, sizeOf, typeInfo, hq, storeCells, loadCells, loadCellsFrom, Nat.min_def, Result.andThen]
      · simpa using hg
    · have ha' := ha h0
      subst ha'
      cases a2 with
      | none => exact absurd (hr.1 rfl) h0
      | some p =>
        have hld := run_loadCells_list (P := P) (w := W) p (ys.flatMap enc) fun j v hj => hr.2 p rfl j v hj
        have hst := run_storeCells_at P b o t' (ys.flatMap enc) 0 cs.toArray W hg (by simp [hfl]; omega) fun v hv => by
          obtain ⟨x, _, hx⟩ := List.mem_flatMap.1 hv
          exact E.one x v hx
        have ea : Addr.add ⟨b, 0, none⟩ o = (⟨b, o, none⟩ : Addr) := by
          unfold Addr.add; simp; exact fun h => h.symm
        have e1 : (cs.toArray.toList.take (o + 0) ++ ys.flatMap enc ++ cs.toArray.toList.drop (o + 0 + (ys.flatMap enc).length)).toArray = (cs.take o ++ ys.flatMap enc ++ cs.drop (o + ys.length * size)).toArray := by
          simp [hfl]
        rw [e1] at hst
        rw [hfl] at hld
        refine ⟨W.setRow b (cs.take o ++ ys.flatMap enc ++ cs.drop (o + ys.length * size)).toArray, ?_, ?_, ?_⟩
        · rw [ea]
          simp [Builtin.copy_, run_underlying E.ty, Builtin.lenOf, Builtin.firstCells, sizeOf, typeInfo, hq, hs, hmin, hld, hst]
        · refine ⟨rfl, rfl, rfl, by simp [World.setRow], fun x hx hne => ?_⟩
          exact setRow_other _ _ _ _ hne
        · exact setRow_heap W b cs.toArray _ t' _ hg
  obtain ⟨W', h1, hf, hb⟩ := hrun
  exact ⟨_, _, h1, hk _ (h.upd hi hf (.cl b _ t') hb fun x hx => .inl hx)⟩
end
end Go.Vc
namespace Go.Proofs.YtngecegnlhmnlaaGreatDoor.Si
open Go Go.RowKit Go.Vc Go.Proofs.YtngecegnlhmnlaaGreatDoor Go.Proofs.YtngecegnlhmnlaaGreatDoor.Fs Go.Proofs.YtngecegnlhmnlaaGreatDoor.Fo
theorem elN : ElT Tryz.prog 173 167 1 enN := ⟨enN_len, fun a u hu => by
  obtain rfl : u = .int .u16 (a : Int) := by simpa [enN] using hu
  rfl, by kernel_rfl, inf_of (by kernel_rfl), by decide⟩
def part (x : List UInt8) (b : Bool) : Option (List Nat) := if b = true ∧ (addrOf x).isSome = true then some [(addrOf x).getD 0 / 65536, (addrOf x).getD 0 % 65536] else (grp x).map fun n => [n]
theorem rdL_cons (x : List UInt8) (r : List (List UInt8)) (last : Bool) : rdL (x :: r) last = (part x (last && decide (r = []))).bind fun l => (rdL r last).map fun m => l ++ m := by
  cases r with
  | nil =>
    have e : (last && decide (([] : List (List UInt8)) = [])) = last := by simp
    rw [e]
    simp only [rdL, part]
    split
    · rfl
    · cases grp x <;> rfl
  | cons y r =>
    have e : (last && decide (y :: r = [])) = false := by simp
    rw [e]
    have e2 : part x false = (grp x).map fun n => [n] := by unfold part; rw [if_neg (fun e => by cases e.1)]
    rw [e2, rdL]
    cases grp x with
    | none => rfl
    | some n => cases rdL (y :: r) last <;> rfl
abbrev outR (q : Nat) (a : Option Addr) (c : Nat) (l : List Nat) : List Res := [.cl q [.slice a l.length c] 173, .sl 167 1 enN (.slice a l.length c) l]
theorem put_gives {S : Nat → Prop} {W0 W : World} (h : Vr W) (x : ByteArray) (hs : x.size ≤ 10000000) (b : Bool) {q : Nat} {a : Option Addr} {c : Nat} {l : List Nat} (hl : l.length ≤ 100000000) (hS : Ow S W0 W (outR q a c l)) :
    Gives Tryz.prog 201 #[.string x, .bool b, .pointer (some ⟨q, 0, none⟩)] W fun v W' => ∃ us', (∃ a' c' l', v = .bool (part x.data.toList b).isSome ∧ us' = outR q a' c' l' ∧ (∀ m, part x.data.toList b = some m → l' = l ++ m) ∧ l'.length ≤ l.length + 2) ∧ Ow S W0 W' us' := F201_fn (by
  unfold F201
  refine hS.callv (parse_gives h x hs) fun W1 hS => AsT2.mk (AsI.mk (AsI.mk ?_))
  have hbd : (addrOf x.data.toList).getD 0 < 4294967296 := by
    cases ho : addrOf x.data.toList with
    | none => decide
    | some m => exact (text_addr ho).1
  refine Join.and ?_
  have e0 : ((if (addrOf x.data.toList).isSome = true then (0 : Int) else 3) == 0) = (addrOf x.data.toList).isSome := by cases (addrOf x.data.toList).isSome <;> rfl
  rw [e0]
  refine If.ofB (p := b = true ∧ (addrOf x.data.toList).isSome = true) (by rw [Bool.and_eq_true]) (fun h1 => ?_) fun h1 => ?_
  · have hp : part x.data.toList b = some [(addrOf x.data.toList).getD 0 / 65536, (addrOf x.data.toList).getD 0 % 65536] := by unfold part; rw [if_pos h1]
    rw [hp]
    generalize (addrOf x.data.toList).getD 0 = m at hbd
    refine hS.ld 0 rfl rfl (AsL.mk rfl ⟨by decide, ?_⟩)
    have e1 : (2 ^ (min (Int.toNat 16) (IntKind.u32).bits) : Int) = ((65536 : Nat) : Int) := by decide
    rw [e1, fd _ _ (by decide), w16, w16, Nat.mod_eq_of_lt (show m / 65536 < 65536 by omega)]
    refine hS.news (cs := enG [m / 65536, m % 65536]) ⟨rfl, by decide, rfl, by decide, trivial⟩ (by kernel_rfl) fun q2 W3 hS => ?_
    have hrd : RdL W3 1 enN (some ⟨q2, 0, none⟩) [m / 65536, m % 65536] := ⟨fun h => (nomatch h), fun p hp => by cases hp; rw [enN_flat]; exact cells_row (hS.get 0 rfl)⟩
    refine hS.appR elN 2 rfl hrd rfl (by show l.length + 2 ≤ _; omega) fun a' c' W4 hS => AsL.mk rfl ?_
    refine hS.st0 1 rfl _ rfl rfl rfl Nat.zero_lt_one fun W5 hS => ?_
    exact ⟨outR q a' c' (l ++ [m / 65536, m % 65536]), ⟨a', c', _, rfl, rfl, fun k hk => by cases hk; rfl, by simp⟩, hS.pick [1, 2] (by decide) rfl⟩
  · have hp : part x.data.toList b = (grp x.data.toList).map fun n => [n] := by unfold part; rw [if_neg h1]
    rw [hp]
    refine hS.call (group_gives x hs W1) ?_
    rintro _ W2 ⟨n, rfl, hn⟩ hS
    refine AsT2.mk (AsI.mk (AsB.mk (hS.ld 0 rfl rfl (AsL.mk rfl ?_))))
    refine hS.news (cs := enN n) ⟨rfl, by decide, trivial⟩ (by kernel_rfl) fun q2 W3 hS => ?_
    refine hS.app1 elN 2 0 rfl rfl (by omega) fun a' c' W4 hS => AsL.mk rfl ?_
    refine hS.st0 1 rfl _ rfl rfl rfl Nat.zero_lt_one fun W5 hS => ?_
    refine ⟨outR q a' c' (l ++ [n]), ⟨a', c', _, ?_, rfl, fun k hk => ?_, by simp⟩, hS.pick [1, 2] (by decide) rfl⟩
    · cases grp x.data.toList <;> rfl
    · cases hg : grp x.data.toList with
      | none => rw [hg] at hk; cases hk
      | some m => rw [hg] at hk; cases hk; rw [hn m hg])
theorem cPut : Ok Tryz.prog 201 := ⟨by kernel_rfl⟩
theorem read_gives {W : World} (h : Vr W) (s : ByteArray) (hs : s.size ≤ 10000000) (last : Bool) :
    Gives Tryz.prog 175 #[.string s, .bool last] W fun v W' => (∃ a c l, v = .tuple #[.slice a l.length c, .bool (rd s.data.toList last).isSome] ∧ NewSl W 167 1 enN l (.slice a l.length c) W' ∧ l.length ≤ 100000000 ∧ ∀ m, rd s.data.toList last = some m → l = m) ∧ Below W.heap.size W W' := F175_fn (by
  unfold F175
  have hS := Ow.start NoS W
  rw [str_beq]
  unfold rd
  refine If.dec (fun h0 => ?_) fun h0 => ?_
  · have h0' : s.data.toList = [] := h0
    rw [if_pos h0']
    exact ⟨⟨none, 0, [], rfl, ((hS.nil 167 1 enN).out 0 rfl).1, by decide, fun m hm => by cases hm; rfl⟩, hS.bel⟩
  have h0' : ¬ s.data.toList = [] := h0
  rw [if_neg h0']
  refine hS.new fun q W1 hS => ?_
  refine hS.calls (splitc_gives 58 (h.bel hS.bel) s (by omega)) fun a14 c14 W2 hS => AsL.mk rfl ?_
  have hsz : ∀ x ∈ spl 58 s.data.toList, (bs x).size ≤ 10000000 := fun x hx => by
    rw [bs_size]
    have := spl_part hx
    rw [size_list] at this; omega
  have hpn := jn_len 58 (spl 58 s.data.toList)
  rw [jn_spl, size_list] at hpn
  generalize spl 58 s.data.toList = ps at hsz hpn hS ⊢
  have hlm : (ps.map bs).length = ps.length := List.length_map _
  have hS0 : Ow NoS W W2 (outR q none 0 [] ++ [.sl 9 1 enStr (.slice a14 (ps.map bs).length c14) (ps.map bs)]) := (hS.nil 167 1 enN).pick [2, 0, 1] (by decide) rfl
  refine Lp.of (fun j : Nat => [.slice none 0 0, .bool false, .int .i64 (j : Int)]) (fun j W' => j ≤ ps.length ∧ ∃ a c l, rdL ps last = (rdL (ps.drop j) last).map (fun m => l ++ m) ∧ l.length ≤ 2 * j ∧ Ow NoS W W' (outR q a c l ++ [.sl 9 1 enStr (.slice a14 (ps.map bs).length c14) (ps.map bs)])) (fun j => ps.length - j) 0 rfl ⟨Nat.zero_le _, none, 0, [], by rw [List.drop_zero]; cases rdL ps last <;> rfl, by decide, hS0⟩ ?_
  rintro j W3 k ⟨hj, a, c, l, hr, hll, hS⟩ hk
  refine AsL.mk rfl (AsB.mk (AsI.mk (If.dec (fun hlt => ?_) fun hge => ?_)))
  · have hjl : j < ps.length := by omega
    have rp := List.getElem?_eq_getElem hjl
    have rx : (ps.map bs)[j]? = some (bs ps[j]) := by rw [List.getElem?_map, rp]; rfl
    refine (hS.rd 2 rfl).get0 enStr_len rfl rfl rx (u := .string (bs ps[j])) rfl (AsS.mk ?_)
    rw [List.drop_eq_getElem_cons hjl, rdL_cons] at hr
    have hb : (last && decide (ps.drop (j + 1) = [])) = (last && ((j : Int) == IntKind.i64.wrap (((ps.map bs).length : Int) - 1))) := by
      congr 1
      rw [hlm, wrap_i64 (by omega) (by omega), show ((j : Int) == ((ps.length : Nat) : Int) - 1) = decide ((j : Int) = (ps.length : Int) - 1) from rfl]
      apply decide_eq_decide.2
      rw [List.drop_eq_nil_iff]
      omega
    rw [hb] at hr
    have hpsz := hsz ps[j] (List.getElem_mem hjl)
    refine Join.and ?_
    refine Ow.yieldF (us := outR q a c l) (Q := fun v us' => ∃ a' c' l', v = .bool (part (bs ps[j]).data.toList (last && ((j : Int) == IntKind.i64.wrap (((ps.map bs).length : Int) - 1)))).isSome ∧ us' = outR q a' c' l' ∧ (∀ m, part (bs ps[j]).data.toList (last && ((j : Int) == IntKind.i64.wrap (((ps.map bs).length : Int) - 1))) = some m → l' = l ++ m) ∧ l'.length ≤ l.length + 2) hS cPut (fun hS' => put_gives (h.bel hS.bel) (bs ps[j]) hpsz _ (by omega) hS') ?_
    rintro _ us' W4 ⟨a', c', l', rfl, rfl, hl', hlen⟩ hS
    rw [bs_list] at hl' ⊢
    refine AsB.mk ?_
    cases hp : part ps[j] (last && ((j : Int) == IntKind.i64.wrap (((ps.map bs).length : Int) - 1))) with
    | none =>
      rw [hp, Option.bind_none] at hr
      rw [hr]
      exact If.pos rfl ⟨⟨none, 0, [], rfl, ((hS.nil 167 1 enN).out 0 rfl).1, by decide, fun m hm => by cases hm⟩, hS.bel⟩
    | some x =>
      rw [hp, Option.bind_some] at hr
      obtain rfl := hl' x hp
      refine If.neg rfl ?_
      rw [nsucc (by omega)]
      refine hk (j + 1) W4 ⟨hjl, a', c', l ++ x, ?_, by omega, hS⟩ (by omega)
      rw [hr]
      cases rdL (ps.drop (j + 1)) last with
      | none => rfl
      | some m => simp
  · have hjl : ps.drop j = [] := List.drop_eq_nil_of_le (by omega)
    rw [hjl] at hr
    have hr' : rdL ps last = some l := by rw [hr]; simp [rdL]
    exact hS.ld 0 rfl rfl (AsL.mk rfl ⟨⟨a, c, l, by rw [hr']; rfl, (hS.out 1 rfl).1, by omega, fun m hm => by rw [hr'] at hm; cases hm; rfl⟩, hS.bel⟩))
end Go.Proofs.YtngecegnlhmnlaaGreatDoor.Si
namespace Go.Proofs.YtngecegnlhmnlaaGreatDoor.Si
open Go Go.RowKit Go.Vc Go.Proofs.YtngecegnlhmnlaaGreatDoor Go.Proofs.YtngecegnlhmnlaaGreatDoor.Fs Go.Proofs.YtngecegnlhmnlaaGreatDoor.Fo
theorem below_drewN (W : World) (n : Nat) : Below W.heap.size W (W.drewN n) := ⟨rfl, rfl, rfl, by simp [World.drewN], fun j hj => by simp only [World.drewN]⟩
theorem cut_gives {W : World} (h : Vr W) (s : ByteArray) (hs : s.size ≤ 10000000) : Gives Tryz.prog 156 #[.string s, .string ⟨#[58, 58]⟩] W fun v W' => v = (match cc s.data.toList with | some p => .tuple #[.string (bs p.1), .string (bs p.2), .bool true] | none => .tuple #[.string s, .string (bs []), .bool false]) ∧ Below W.heap.size W W' := by
  obtain ⟨m, hm⟩ := h.ml
  refine Calls.mono (Tryz.strings_Cut s ⟨#[58, 58]⟩ m W (by omega) hm) fun e w' hh => ?_
  obtain ⟨he, n, rfl⟩ := hh
  have e2 : (⟨#[58, 58]⟩ : ByteArray).data.toList = [58, 58] := rfl
  rw [e2, cut_cc] at he
  refine ⟨_, he, ?_, below_drewN W n⟩
  cases cc s.data.toList with
  | none =>
    have : bs s.data.toList = s := bs_data s
    show Value.tuple #[.string (bs s.data.toList), .string (bs []), .bool false] = _
    rw [this]
  | some p => rfl
theorem halves_nil : halves (ofG []) = (0, 0) := by kernel_rfl
theorem fill {x y : List Nat} (h : x.length + y.length ≤ 8) : (enG (x ++ List.replicate (8 - x.length) 0)).take (8 - y.length) ++ enG y ++ (enG (x ++ List.replicate (8 - x.length) 0)).drop (8 - y.length + y.length * 1) = enG (x ++ List.replicate (8 - x.length - y.length) 0 ++ y) := by
  unfold enG
  rw [List.drop_eq_nil_of_le (by simp; omega), List.append_nil, ← List.map_take, ← List.map_append]
  congr 2
  rw [List.take_append, List.take_of_length_le (by omega), List.take_replicate]
  congr 2
  omega
theorem parse6_gives {W : World} (h : Vr W) (s : ByteArray) (hs : s.size ≤ 10000000) :
    Gives Tryz.prog 126 #[.string s] W fun v W' => v = .tuple #[.agg (enW (halves (ofG ((parse6 s.data.toList).getD [])))).toArray, .int .i64 (if (parse6 s.data.toList).isSome then 0 else 3)] ∧ Below W.heap.size W W' := F126_fn (by
  unfold F126
  have hS := Ow.start NoS W
  refine hS.new fun q2 W1 hS => ?_
  refine hS.callv (cut_gives (h.bel hS.bel) s hs) fun W2 hS => ?_
  have main : ∀ (f b : ByteArray) (sh : Bool), f.size ≤ 10000000 → b.size ≤ 10000000 →
      ((parse6 s.data.toList) = (rd f.data.toList (!sh)).bind fun x => (rd b.data.toList true).bind fun y => if (sh = true → x.length + y.length < 8) ∧ (sh = false → x.length + y.length = 8) then some (x ++ List.replicate (8 - x.length - y.length) 0 ++ y) else none) →
      CallK Tryz.prog 175 #[.string f, .bool (!sh)] W2 (fun _ _ => False) (fun u23 W_3 =>
  AsT2 u23 fun u23a u23b =>
  AsL u23a fun a23a n23a c23a =>
  AsB u23b fun b23b =>
  CallK Tryz.prog 175 #[.string b, .bool true] W_3 (fun _ _ => False) fun u28 W_4 =>
  AsT2 u28 fun u28a u28b =>
  AsL u28a fun a28a n28a c28a =>
  AsB u28b fun b28b =>
  Join (fun (b41 : Bool) (W_5 : World) =>
  Join (fun (b48 : Bool) (W_6 : World) =>
  Join (fun (b56 : Bool) (W_7 : World) =>
  If b56 (BldC [.int .u64 0, .int .u64 0] [] fun cs57 =>
  StV 2 W_7 ⟨q2, 0, none⟩ (.agg cs57) fun W_8 =>
  LdNC W_8 ⟨q2, 0, none⟩ 2 fun l2 =>
  Value.tuple #[.agg l2.toArray, .int .i64 3] = .tuple #[.agg (enW (halves (ofG ((parse6 s.data.toList).getD [])))).toArray, .int .i64 (if (parse6 s.data.toList).isSome then 0 else 3)] ∧ Below W.heap.size W W_8) (NewA #[.int .u16 0, .int .u16 0, .int .u16 0, .int .u16 0, .int .u16 0, .int .u16 0, .int .u16 0, .int .u16 0] 168 W_7 fun q12 W_9 =>
  SlB 8 8 none none fun i58 j58 =>
  RunW Tryz.prog (Builtin.copy_ #[173, 173] 3 #[.slice (some (if 8 = i58 then q12 else Addr.add q12 (i58 * 1))) (j58 - i58) (8 - i58), .slice a23a n23a c23a]) W_9 fun u60 W_10 =>
  AsI .i64 u60 fun x60 =>
  SlB 8 8 (some (IntKind.i64.wrap (8 - (n28a : Int)))) none fun i64 j64 =>
  RunW Tryz.prog (Builtin.copy_ #[173, 173] 3 #[.slice (some (if 8 = i64 then q12 else Addr.add q12 (i64 * 1))) (j64 - i64) (8 - i64), .slice a28a n28a c28a]) W_10 fun u66 W_11 =>
  AsI .i64 u66 fun x66 =>
  LdNC W_11 q12 8 fun l67 =>
  CallK Tryz.prog 176 #[.agg l67.toArray] W_11 (fun _ _ => False) fun u68 W_12 =>
  StV 2 W_12 ⟨q2, 0, none⟩ u68 fun W_13 =>
  LdNC W_13 ⟨q2, 0, none⟩ 2 fun l2_1 =>
  Value.tuple #[.agg l2_1.toArray, .int .i64 0] = .tuple #[.agg (enW (halves (ofG ((parse6 s.data.toList).getD [])))).toArray, .int .i64 (if (parse6 s.data.toList).isSome then 0 else 3)] ∧ Below W.heap.size W W_13)) fun (J_2 : Bool → World → Prop) =>
  If b48 (J_2 true W_6) (Join (fun (b55 : Bool) (W_14 : World) =>
  J_2 b55 W_14) fun (J_3 : Bool → World → Prop) =>
  If (!sh) (J_3 (((IntKind.i64.wrap ((n23a : Int) + (n28a : Int))) : Int) != 8) W_6) (J_3 false W_6))) fun (J_1 : Bool → World → Prop) =>
  If b41 (J_1 true W_5) (Join (fun (b47 : Bool) (W_15 : World) =>
  J_1 b47 W_15) fun (J_4 : Bool → World → Prop) =>
  If sh (J_4 (decide (((IntKind.i64.wrap ((n23a : Int) + (n28a : Int))) : Int) ≥ 8)) W_5) (J_4 false W_5))) fun (J : Bool → World → Prop) =>
  If (!b23b) (J true W_4) (J (!b28b) W_4)) := fun f b sh hf hb hp => by
    refine CallK.mk (read_gives (h.bel hS.bel) f hf (!sh)) ?_
    rintro _ W3 ⟨⟨a, c, x, rfl, ⟨_, _, e1, hsx, hox⟩, hxl, hx⟩, hb1⟩
    have hS := hS.newsl hb1 hsx hox
    refine AsT2.mk (AsL.mk rfl (AsB.mk (CallK.mk (read_gives (h.bel hS.bel) b hb true) ?_)))
    rintro _ W4 ⟨⟨a', c', y, rfl, ⟨_, _, e2, hsy, hoy⟩, hyl, hy⟩, hb2⟩
    have hS := hS.newsl hb2 hsy hoy
    refine AsT2.mk (AsL.mk rfl (AsB.mk ?_))
    have ew : IntKind.i64.wrap ((x.length : Int) + (y.length : Int)) = ((x.length + y.length : Nat) : Int) := by rw [wrap_i64 (by omega) (by omega)]; omega
    rw [ew]
    refine Join.or ?_
    refine Join.use fun J1 hJ1 => ?_
    have j1 : ∀ b1 : Bool, (b1 = true → parse6 s.data.toList = none) → (b1 = false → ∃ x' y', rd f.data.toList (!sh) = some x' ∧ rd b.data.toList true = some y' ∧ (sh = true → x'.length + y'.length < 8)) → J1 b1 W4 := fun b1 h1 h2 => by
      rw [hJ1]; dsimp only
      refine Join.use fun J2 hJ2 => ?_
      have bad : parse6 s.data.toList = none → J2 true W4 := fun hn => by
        rw [hJ2]; dsimp only
        rw [hn]
        refine If.pos rfl (BldC.mk (cs := enW (0, 0)) trivial rfl (hS.stw 2 rfl (cs := enW (0, 0)) rfl rfl rfl fun W5 hS => hS.ldw 2 rfl rfl ⟨?_, hS.bel⟩))
        rw [Option.getD_none, halves_nil]; rfl
      have fine : parse6 s.data.toList = some (x ++ List.replicate (8 - x.length - y.length) 0 ++ y) → x.length + y.length ≤ 8 → J2 false W4 := fun hq h8 => by
        rw [hJ2]; dsimp only
        rw [hq]
        refine If.neg rfl (hS.new fun q12 W5 hS => SlB.mk 0 8 rfl rfl (by decide) (by decide) ?_)
        have hz : ([.int .u16 0, .int .u16 0, .int .u16 0, .int .u16 0, .int .u16 0, .int .u16 0, .int .u16 0, .int .u16 0] : List Value) = enG (List.replicate 8 0) := rfl
        rw [hz] at hS
        refine hS.copyAt elN 0 rfl (o := 0) (fun _ => rfl) (by rw [enG_len]; simp; omega) (by omega) (hS.rd 2 rfl) rfl fun W6 hS => AsI.mk ?_
        have hc1 : (enG (List.replicate 8 0)).take 0 ++ x.flatMap enN ++ (enG (List.replicate 8 0)).drop (0 + x.length * 1) = enG (x ++ List.replicate (8 - x.length) 0) := by
          rw [enN_flat]; unfold enG
          rw [List.take_zero, List.nil_append, ← List.map_drop, List.drop_replicate, ← List.map_append, Nat.zero_add, Nat.mul_one]
        rw [hc1] at hS
        refine SlB.mk (8 - y.length) 8 (by rw [wrap_i64 (by omega) (by omega)]; show _ = ((8 - y.length : Nat) : Int); omega) rfl (by omega) (by omega) ?_
        refine hS.copyAt elN 0 rfl (o := 8 - y.length) (fun hne => by
          have : 0 < y.length := List.length_pos_iff.2 hne
          rw [if_neg (by omega), Nat.mul_one]) (by rw [enG_len]; simp; omega) (by omega) (hS.rd 1 rfl) rfl fun W7 hS => AsI.mk ?_
        rw [enN_flat, fill h8] at hS
        have hgl : (x ++ List.replicate (8 - x.length - y.length) 0 ++ y).length = 8 := (parse6_some hq).1
        refine hS.ldw 0 rfl (by rw [enG_len]; exact hgl) (hS.callv (six_of_gives _ hgl (parse6_some hq).2 W7) fun W8 hS => ?_)
        exact hS.stw 3 rfl (cs := enW (halves (ofG (x ++ List.replicate (8 - x.length - y.length) 0 ++ y)))) rfl rfl rfl fun W9 hS => hS.ldw 3 rfl rfl ⟨rfl, hS.bel⟩
      refine If.split (fun hb => bad (h1 hb)) fun hb => ?_
      obtain ⟨x', y', hx', hy', h8⟩ := h2 hb
      obtain rfl := hx _ hx'
      obtain rfl := hy _ hy'
      rw [hx', Option.bind_some, hy', Option.bind_some] at hp
      refine Join.use fun J3 hJ3 => ?_
      cases sh with
      | true =>
        refine If.neg rfl ?_
        rw [hJ3]
        rw [if_pos ⟨fun _ => h8 rfl, fun h => by cases h⟩] at hp
        exact fine hp (Nat.le_of_lt (h8 rfl))
      | false =>
        refine If.pos rfl ?_
        rw [hJ3]; dsimp only
        by_cases he : x.length + y.length = 8
        · rw [if_pos ⟨fun h => (by cases h), fun _ => he⟩] at hp
          rw [show (((x.length + y.length : Nat) : Int) != 8) = false by rw [bne_eq_false_iff_eq]; omega]
          exact fine hp (by omega)
        · rw [if_neg fun h => he (h.2 rfl)] at hp
          rw [show (((x.length + y.length : Nat) : Int) != 8) = true by rw [bne_iff_ne]; omega]
          exact bad hp
    refine If.ofB (p := rd f.data.toList (!sh) = none ∨ rd b.data.toList true = none) (by
      rw [Bool.or_eq_true]
      cases rd f.data.toList (!sh) <;> cases rd b.data.toList true <;> simp) (fun hn => j1 true (fun _ => ?_) fun h => by cases h) fun hn => ?_
    · rw [hp]
      rcases hn with hn | hn
      · rw [hn]; rfl
      · rw [hn]; cases rd f.data.toList (!sh) <;> rfl
    obtain ⟨x', hx'⟩ : ∃ x', rd f.data.toList (!sh) = some x' := by
      cases h1 : rd f.data.toList (!sh) with
      | none => exact absurd (.inl h1) hn
      | some x' => exact ⟨x', rfl⟩
    obtain ⟨y', hy'⟩ : ∃ y', rd b.data.toList true = some y' := by
      cases h1 : rd b.data.toList true with
      | none => exact absurd (.inr h1) hn
      | some y' => exact ⟨y', rfl⟩
    obtain rfl := hx _ hx'
    obtain rfl := hy _ hy'
    rw [hx', Option.bind_some, hy', Option.bind_some] at hp
    refine Join.use fun J4 hJ4 => ?_
    cases sh with
    | true =>
      refine If.pos rfl ?_
      rw [hJ4]; dsimp only
      refine j1 _ (fun h => ?_) fun h => ⟨x, y, hx', hy', fun _ => ?_⟩
      · have := of_decide_eq_true h
        rw [hp, if_neg fun h => by have := h.1 rfl; omega]
      · have := of_decide_eq_false h
        omega
    | false =>
      refine If.neg rfl ?_
      rw [hJ4]
      exact j1 false (fun h => by cases h) fun _ => ⟨x, y, hx', hy', fun h => by cases h⟩
  cases hcc : cc s.data.toList with
  | none =>
    refine AsT3.mk (AsS.mk (AsS.mk (AsB.mk (main s (bs []) false hs (by decide) ?_))))
    unfold parse6
    rw [hcc]
    have e : rd (bs []).data.toList true = some [] := by unfold rd; exact if_pos rfl
    rw [e]
    simp only [Bool.not_false, Option.bind_some]
    congr 1; funext x
    by_cases h8 : x.length = 8
    · rw [if_pos h8, if_pos ⟨fun h => (by cases h), fun _ => by simpa using h8⟩, h8]; simp
    · rw [if_neg h8, if_neg fun h => h8 (by simpa using h.2 trivial)]
  | some p =>
    have hl := congrArg List.length (cc_spec (a := p.1) (b := p.2) hcc)
    rw [size_list, List.length_append, List.length_cons, List.length_cons] at hl
    refine AsT3.mk (AsS.mk (AsS.mk (AsB.mk (main (bs p.1) (bs p.2) true (by rw [bs_size]; omega) (by rw [bs_size]; omega) ?_))))
    unfold parse6
    rw [hcc, bs_list, bs_list]
    simp only [Bool.not_true]
    congr 1; funext x
    congr 1; funext y
    by_cases h8 : x.length + y.length < 8
    · rw [if_pos h8, if_pos ⟨fun _ => h8, fun h => by cases h⟩]
    · rw [if_neg h8, if_neg fun h => h8 (h.1 trivial)])
theorem spl_from {l : List UInt8} {f j : Nat} (hf : f ≤ j) (hj : j < l.length) (hno : ∀ k, f ≤ k → k < j → l[k]? ≠ some 58) (hc : l[j]? = some 58) : spl 58 (l.drop f) = (l.drop f).take (j - f) :: spl 58 (l.drop (j + 1)) := by
  have h1 : l.drop f = (l.drop f).take (j - f) ++ 58 :: l.drop (j + 1) := by
    have hj' : l.drop j = 58 :: l.drop (j + 1) := by
      rw [List.drop_eq_getElem_cons hj]
      rw [List.getElem?_eq_getElem hj] at hc
      rw [Option.some.inj hc]
    have : (l.drop f).drop (j - f) = l.drop j := by rw [List.drop_drop]; congr 1; omega
    conv => lhs; rw [← List.take_append_drop (j - f) (l.drop f), this, hj']
  conv => lhs; rw [h1]
  refine spl_hit 58 _ _ fun hm => ?_
  obtain ⟨k, hk⟩ := List.getElem?_of_mem hm
  have hkl : k < j - f := by
    have := (List.getElem?_eq_some_iff.1 hk).1
    rw [List.length_take] at this; omega
  rw [List.getElem?_take_of_lt hkl, List.getElem?_drop] at hk
  exact hno (f + k) (by omega) (by omega) hk
theorem spl_last {l : List UInt8} {f : Nat} (hno : ∀ k, f ≤ k → l[k]? ≠ some 58) : spl 58 (l.drop f) = [l.drop f] := by
  refine spl_miss 58 _ fun hm => ?_
  obtain ⟨k, hk⟩ := List.getElem?_of_mem hm
  rw [List.getElem?_drop] at hk
  exact hno (f + k) (by omega) hk
theorem ext_list (s : ByteArray) (a b : Nat) : (s.extract a b).data.toList = (s.data.toList.drop a).take (b - a) := by
  rw [ByteArray.data_extract]; simp [Array.toList_extract, List.extract_eq_take_drop]
theorem rread_gives (s : ByteArray) (hs : s.size ≤ 10000000) (last : Bool) (W : World) :
    Gives Tryz.prog 166 #[.string s, .bool last] W fun v W' => (∃ a c l, v = .tuple #[.slice a l.length c, .bool (rd s.data.toList last).isSome] ∧ NewSl W 167 1 enN l (.slice a l.length c) W' ∧ l.length ≤ 100000000 ∧ ∀ m, rd s.data.toList last = some m → l = m) ∧ Below W.heap.size W W' := F166_fn (by
  unfold F166
  have hS0 := (Ow.start NoS W).nil 167 1 enN
  have hex := ext_list s
  generalize hl : s.data.toList = l at hex
  have hsz : l.length = s.size := by rw [← hl]; exact size_list s
  have hrd : l ≠ [] → rd l last = rdL (spl 58 l) last := fun h => by unfold rd; rw [if_neg h]
  refine Lp.of (fun t : Nat × Option Addr × Nat × List Nat × Nat => [.int .i64 (t.1 : Int), .slice none 0 0, .bool false, .slice t.2.1 t.2.2.2.1.length t.2.2.1, .int .i64 (t.2.2.2.2 : Int)])
    (fun t W' => t.1 ≤ t.2.2.2.2 ∧ t.2.2.2.2 ≤ l.length + 1 ∧ (t.2.2.2.2 = l.length + 1 → rd l last = some t.2.2.2.1) ∧ t.2.2.2.1.length ≤ t.2.2.2.2 ∧ (t.2.2.2.2 ≤ l.length → (rdL (spl 58 l) last = (rdL (spl 58 (l.drop t.1)) last).map (fun m => t.2.2.2.1 ++ m)) ∧ (∀ k, t.1 ≤ k → k < t.2.2.2.2 → l[k]? ≠ some 58) ∧ (l = [] → t.2.2.2.1 = [])) ∧ Ow NoS W W' [.sl 167 1 enN (.slice t.2.1 t.2.2.2.1.length t.2.2.1) t.2.2.2.1])
    (fun t => l.length + 1 - t.2.2.2.2) (0, none, 0, [], 0) rfl ⟨Nat.le_refl _, Nat.zero_le _, fun h => by simp at h, Nat.zero_le _, fun _ => ⟨by rw [List.drop_zero]; cases rdL (spl 58 l) last <;> rfl, fun k h1 h2 => absurd h2 (Nat.not_lt_zero _), fun _ => rfl⟩, hS0⟩ ?_
  rintro ⟨f, a, c, out, j⟩ W1 k ⟨hfj, hjl, hend, hol, hin, hS⟩ hk
  dsimp only at hfj hjl hend hol hin hS hk ⊢
  refine AsI.mk (AsL.mk rfl (AsB.mk (AsL.mk rfl (AsI.mk (Join.and ?_)))))
  refine If.ofB (p := j ≤ l.length ∧ l ≠ []) (by
    rw [← Bool.decide_and, decide_eq_true_eq]
    constructor
    · rintro ⟨h1, h2⟩
      exact ⟨by omega, fun e => by rw [e] at hsz; simp at hsz; omega⟩
    · rintro ⟨h1, h2⟩
      have := List.length_pos_iff.2 h2
      exact ⟨by omega, by omega⟩) (fun h => ?_) fun h => ?_
  · obtain ⟨hjle, hne⟩ := h
    obtain ⟨hr, hno, _⟩ := hin hjle
    refine Join.use fun J1 hJ1 => Join.use fun J2 hJ2 => ?_
    have next : j < l.length → l[j]? ≠ some 58 → J2 true W1 := fun hj hc => by
      rw [hJ2]; dsimp only
      refine If.pos rfl ?_
      rw [hJ1]; dsimp only
      rw [nsucc (by omega)]
      refine hk (f, a, c, out, j + 1) W1 ⟨by dsimp only; omega, by dsimp only; omega, fun h => by dsimp only at h; omega, by dsimp only; omega, fun h => ⟨hr, fun k' h1 h2 => ?_, fun e => absurd e hne⟩, hS⟩ (by dsimp only; omega)
      dsimp only at h1 h2
      rcases Nat.lt_or_ge k' j with h3 | h3
      · exact hno k' h1 h3
      · rw [show k' = j by omega]; exact hc
    have work : (j = l.length ∨ (j < l.length ∧ l[j]? = some 58)) → J2 false W1 := fun hcase => by
      rw [hJ2]; dsimp only
      refine If.neg rfl (SlB.mk f j rfl rfl hfj (by omega) ?_)
      have hxl := hex f j
      generalize ByteArray.extract s f j = xs at hxl ⊢
      have hxs : xs.size ≤ 10000000 := by
        have := congrArg List.length hxl
        rw [size_list, List.length_take, List.length_drop] at this; omega
      have hsp : spl 58 (l.drop f) = xs.data.toList :: (if j = l.length then [] else spl 58 (l.drop (j + 1))) := by
        rcases hcase with he | ⟨hj, hc⟩
        · rw [if_pos he, spl_last fun k' h1 => ?_, hxl, he, List.take_of_length_le (by rw [List.length_drop]; exact Nat.le_refl _)]
          rcases Nat.lt_or_ge k' l.length with h3 | h3
          · exact hno k' h1 (by omega)
          · rw [List.getElem?_eq_none h3]; exact fun h => by cases h
        · rw [if_neg (by omega), spl_from hfj hj hno hc, hxl]
      rw [hsp, rdL_cons] at hr
      have hb : (last && decide ((if j = l.length then [] else spl 58 (l.drop (j + 1))) = [])) = (last && ((j : Int) == (s.size : Int))) := by
        congr 1
        rw [show ((j : Int) == (s.size : Int)) = decide ((j : Int) = (s.size : Int)) from rfl]
        apply decide_eq_decide.2
        by_cases he : j = l.length
        · rw [if_pos he]; exact ⟨fun _ => by omega, fun _ => rfl⟩
        · rw [if_neg he]; exact ⟨fun e => absurd e (spl_ne _ _), fun e => absurd e (by omega)⟩
      rw [hb] at hr
      have hbd : (addrOf xs.data.toList).getD 0 < 4294967296 := by
        cases ho : addrOf xs.data.toList with
        | none => decide
        | some m => exact (text_addr ho).1
      refine hS.callv (rparse_gives xs hxs W1) fun W2 hS => AsT2.mk (AsI.mk (AsB.mk (Join.and (Join.and ?_))))
      refine If.ofB (p := (last && ((j : Int) == (s.size : Int))) = true ∧ (addrOf xs.data.toList).isSome = true) (by simp only [Bool.and_eq_true]; exact ⟨fun ⟨⟨h1, h2⟩, h3⟩ => ⟨⟨h2, h3⟩, h1⟩, fun ⟨⟨h2, h3⟩, h1⟩ => ⟨⟨h1, h2⟩, h3⟩⟩) (fun h1 => ?_) fun h1 => ?_
      · have he : j = l.length := by
          have := h1.1
          rw [Bool.and_eq_true, beq_iff_eq] at this
          omega
        have hp : part xs.data.toList (last && ((j : Int) == (s.size : Int))) = some [(addrOf xs.data.toList).getD 0 / 65536, (addrOf xs.data.toList).getD 0 % 65536] := by unfold part; rw [if_pos h1]
        rw [hp, if_pos he, Option.bind_some] at hr
        have hfin : rd l last = some (out ++ [(addrOf xs.data.toList).getD 0 / 65536, (addrOf xs.data.toList).getD 0 % 65536]) := by rw [hrd hne, hr]; simp [rdL]
        rw [hfin]
        generalize (addrOf xs.data.toList).getD 0 = m at hbd
        refine ⟨by decide, by decide, ?_⟩
        have e1 : IntKind.u32.wrap ((m : Int).tdiv 65536) = ((m / 65536 : Nat) : Int) := by
          have : (m : Int).tdiv 65536 = ((m / 65536 : Nat) : Int) := rfl
          rw [this]; exact w32' (by omega)
        have e2 : (m : Int).tmod 65536 = ((m % 65536 : Nat) : Int) := rfl
        rw [e1, e2, w16, w16, Nat.mod_mod, Nat.mod_eq_of_lt (show m / 65536 < 65536 by omega)]
        refine hS.news (cs := enG [m / 65536, m % 65536]) ⟨rfl, by decide, rfl, by decide, trivial⟩ (by kernel_rfl) fun q2 W3 hS => ?_
        have hrd2 : RdL W3 1 enN (some ⟨q2, 0, none⟩) [m / 65536, m % 65536] := ⟨fun h => (nomatch h), fun p hp => by cases hp; rw [enN_flat]; exact cells_row (hS.get 0 rfl)⟩
        refine hS.appR elN 1 rfl hrd2 rfl (by show out.length + 2 ≤ _; omega) fun a' c' W4 hS => AsL.mk rfl ?_
        exact ⟨⟨a', c', _, rfl, (hS.out 1 rfl).1, by simp; omega, fun k hk => by cases hk; rfl⟩, hS.bel⟩
      · have hp : part xs.data.toList (last && ((j : Int) == (s.size : Int))) = (grp xs.data.toList).map fun n => [n] := by unfold part; rw [if_neg h1]
        rw [hp] at hr
        refine hS.call (rgroup_gives xs hxs W2) ?_
        rintro _ W3 ⟨n, rfl, hn⟩ hS
        refine AsT2.mk (AsI.mk (AsB.mk ?_))
        cases hg : grp xs.data.toList with
        | none =>
          rw [hg] at hr
          have hfin : rd l last = none := by rw [hrd hne, hr]; rfl
          rw [hfin]
          exact If.pos rfl ⟨⟨none, 0, [], rfl, ((hS.nil 167 1 enN).out 0 rfl).1, by decide, fun m hm => by cases hm⟩, hS.bel⟩
        | some m =>
          obtain rfl := hn m hg
          rw [hg, Option.map_some, Option.bind_some] at hr
          refine If.neg rfl ?_
          refine hS.news (cs := enN n) ⟨rfl, by decide, trivial⟩ (by kernel_rfl) fun q2 W4 hS => ?_
          refine hS.app1 elN 1 0 rfl rfl (by omega) fun a' c' W5 hS => AsL.mk rfl ?_
          rw [hJ1]; dsimp only
          rw [nsucc (by omega)]
          refine hk (j + 1, a', c', out ++ [n], j + 1) W5 ⟨Nat.le_refl _, by dsimp only; omega, fun h => ?_, by simp; omega, fun h => ⟨?_, fun k' h1 h2 => by dsimp only at h1 h2; omega, fun e => absurd e hne⟩, hS.pick [1] (by decide) rfl⟩ (by dsimp only; omega)
          · have he : j = l.length := by dsimp only at h; omega
            rw [if_pos he] at hr
            rw [hrd hne, hr]; simp [rdL]
          · have he : j ≠ l.length := by dsimp only at h; omega
            rw [if_neg he] at hr
            rw [hr]
            cases rdL (spl 58 (l.drop (j + 1))) last with
            | none => rfl
            | some m => simp
    refine If.dec (fun hlt => ?_) fun hge => work (.inl (by omega))
    have hj : j < l.length := by omega
    refine ⟨l[j], by omega, by rw [Int.toNat_natCast]; subst hl; exact str_get hj, ?_⟩
    dsimp only
    by_cases h58 : l[j] = 58
    · rw [show ((l[j].toNat : Int) != 58) = false by rw [h58]; rfl]
      exact work (.inr ⟨hj, by rw [List.getElem?_eq_getElem hj, h58]⟩)
    · rw [show ((l[j].toNat : Int) != 58) = true by
        rw [bne_iff_ne]
        intro e
        exact h58 (UInt8.toNat_inj.1 (by simpa using (show l[j].toNat = 58 by omega)))]
      exact next hj (by rw [List.getElem?_eq_getElem hj]; exact fun e => h58 (Option.some.inj e))
  · have hfin : rd l last = some out := by
      by_cases hne : l = []
      · rcases Nat.lt_or_ge l.length j with h1 | h1
        · exact hend (by omega)
        · have := (hin h1).2.2 hne
          unfold rd
          rw [if_pos hne, this]
      · exact hend (by
          have : ¬ j ≤ l.length := fun h1 => h ⟨h1, hne⟩
          omega)
    rw [hfin]
    exact ⟨⟨a, c, out, rfl, (hS.out 0 rfl).1, by omega, fun m hm => by cases hm; rfl⟩, hS.bel⟩)
theorem rparse6_gives (s : ByteArray) (hs : s.size ≤ 10000000) (W : World) :
    Gives Tryz.prog 113 #[.string s] W fun v W' => v = .tuple #[.agg (enW (halves (ofG ((parse6 s.data.toList).getD [])))).toArray, .bool (parse6 s.data.toList).isSome] ∧ Below W.heap.size W W' := F113_fn (by
  unfold F113
  have hS := Ow.start NoS W
  have hex := ext_list s
  refine hS.new fun q2 W1 hS => BldC.mk (cs := enW (0, 0)) trivial rfl (hS.new fun q4 W2 hS => hS.stw 0 rfl (cs := enW (0, 0)) rfl rfl rfl fun W3 hS => hS.new fun q5 W4 hS => ?_)
  have hz : ([.int .u16 0, .int .u16 0, .int .u16 0, .int .u16 0, .int .u16 0, .int .u16 0, .int .u16 0, .int .u16 0] : List Value) = enG (List.replicate 8 0) := rfl
  rw [hz] at hS
  have hS : Ow NoS W W4 [.cl q5 (enG (List.replicate 8 0)) 168, .cl q4 (enW (0, 0)) 126, .cl q2 (enW (0, 0)) 126] := hS
  refine hS.callv (ccut_gives s hs W4) fun W5 hS => AsI.mk ?_
  have bad : ∀ {W' : World} {r : List Res}, Ow NoS W W' (r ++ [.cl q5 (enG (List.replicate 8 0)) 168, .cl q4 (enW (0, 0)) 126, .cl q2 (enW (0, 0)) 126]) → parse6 s.data.toList = none → LdNC W' ⟨q4, 0, none⟩ 2 fun l33 => StV 2 W' ⟨q2, 0, none⟩ (.agg l33.toArray) fun W_8 => LdNC W_8 ⟨q2, 0, none⟩ 2 fun l2 => (fun (v : Value) (W' : World) => v = .tuple #[.agg (enW (halves (ofG ((parse6 s.data.toList).getD [])))).toArray, .bool (parse6 s.data.toList).isSome] ∧ Below W.heap.size W W') (.tuple #[.agg l2.toArray, .bool false]) W_8 := fun {W' r} hS hn => by
    have hS := hS.swap.front
    refine hS.ldw 1 rfl rfl (hS.stw 2 rfl (cs := enW (0, 0)) rfl rfl rfl fun W5 hS => hS.ldw 2 rfl rfl ⟨?_, hS.bel⟩)
    rw [hn, Option.getD_none, halves_nil]; rfl
  have good : ∀ {W' : World} {r : List Res} {g : List Nat}, Ow NoS W W' ([.cl q5 (enG g) 168, .cl q4 (enW (0, 0)) 126, .cl q2 (enW (0, 0)) 126] ++ r) → parse6 s.data.toList = some g → LdNC W' ⟨q5, 0, none⟩ 8 fun l44 => CallK Tryz.prog 167 #[.agg l44.toArray] W' (fun _ _ => False) fun u45 W_11 => StV 2 W_11 ⟨q2, 0, none⟩ u45 fun W_12 => LdNC W_12 ⟨q2, 0, none⟩ 2 fun l2_1 => (fun (v : Value) (W' : World) => v = .tuple #[.agg (enW (halves (ofG ((parse6 s.data.toList).getD [])))).toArray, .bool (parse6 s.data.toList).isSome] ∧ Below W.heap.size W W') (.tuple #[.agg l2_1.toArray, .bool true]) W_12 := fun {W' r g} hS hn => by
    have hS := hS.front
    obtain ⟨hl, hb⟩ := parse6_some hn
    refine hS.ldw 0 rfl (by rw [enG_len]; exact hl) (hS.callv (rof_gives hl hb W') fun W5 hS => hS.stw 2 rfl (cs := enW (halves (ofG g))) rfl rfl rfl fun W6 hS => hS.ldw 2 rfl rfl ⟨?_, hS.bel⟩)
    rw [hn]; rfl
  cases hcc : cc s.data.toList with
  | none =>
    have hp : parse6 s.data.toList = (rd s.data.toList true).bind fun x => if x.length = 8 then some x else none := by unfold parse6; rw [hcc]
    refine If.pos rfl (CallK.mk (rread_gives s hs true W5) ?_)
    rintro _ W6 ⟨⟨a, c, x, rfl, ⟨_, _, e1, hsx, hox⟩, hxl, hx⟩, hb1⟩
    have hS := hS.newsl hb1 hsx hox
    refine AsT2.mk (AsL.mk rfl (AsB.mk (Join.or ?_)))
    refine If.ofB (p := parse6 s.data.toList = none) (by
      rw [Bool.or_eq_true, bne_iff_ne, hp]
      cases hr : rd s.data.toList true with
      | none => simp
      | some y =>
        obtain rfl := hx y hr
        simp; omega) (fun hn => bad (r := [_]) hS hn) fun hn => ?_
    obtain ⟨g, hg⟩ : ∃ g, parse6 s.data.toList = some g := by
      cases h : parse6 s.data.toList with
      | none => exact absurd h hn
      | some g => exact ⟨g, rfl⟩
    have hxg : x = g ∧ x.length = 8 := by
      rw [hp] at hg
      cases hr : rd s.data.toList true with
      | none => rw [hr] at hg; cases hg
      | some y =>
        obtain rfl := hx y hr
        rw [hr, Option.bind_some] at hg
        split at hg
        · rename_i h8; cases hg; exact ⟨rfl, h8⟩
        · cases hg
    obtain ⟨rfl, h8⟩ := hxg
    refine Lp.of (fun j : Nat => [.int .i64 (j : Int)]) (fun j W' => j ≤ 8 ∧ Ow NoS W W' [.cl q5 (enG (x.take j ++ List.replicate (8 - j) 0)) 168, .cl q4 (enW (0, 0)) 126, .cl q2 (enW (0, 0)) 126, .sl 167 1 enN (.slice a x.length c) x]) (fun j => 8 - j) 0 rfl ⟨by omega, hS.pick [1, 2, 3, 0] (by decide) rfl⟩ ?_
    rintro j W7 k ⟨hj, hS⟩ hk
    refine AsI.mk (If.dec (fun hlt => ?_) fun hge => ?_)
    · have hjl : j < x.length := by omega
      refine (hS.rd 3 rfl).get0 enN_len rfl rfl (List.getElem?_eq_getElem hjl) rfl (AsI.mk (IdxA.to rfl (by omega) ?_))
      rw [Nat.mul_one]
      obtain ⟨m, hm⟩ : ∃ m, 8 - j = m + 1 := ⟨7 - j, by omega⟩
      have ht : (x.take j).length = j := by rw [List.length_take]; omega
      have hset := enG_set (x.take j) x[j] 0 (List.replicate m 0)
      rw [ht] at hset
      refine hS.st1 0 rfl (enG (x.take (j + 1) ++ List.replicate (8 - (j + 1)) 0)) ?_ rfl rfl (by rw [enG_len, List.length_append, ht, List.length_replicate]; omega) fun W8 hS => ?_
      · rw [hm, List.replicate_succ, hset, List.take_succ_eq_append_getElem hjl, show 8 - (j + 1) = m by omega]
      · rw [nsucc (by omega)]
        exact hk (j + 1) W8 ⟨by omega, hS⟩ (by omega)
    · have e : x.take j ++ List.replicate (8 - j) 0 = x := by rw [List.take_of_length_le (by omega), show 8 - j = 0 by omega]; simp
      rw [e] at hS
      exact good (r := [_]) hS hg
  | some p =>
    have hp : parse6 s.data.toList = (rd p.1 false).bind fun x => (rd p.2 true).bind fun y => if x.length + y.length < 8 then some (x ++ List.replicate (8 - x.length - y.length) 0 ++ y) else none := by unfold parse6; rw [hcc]
    have hsp := cc_spec (a := p.1) (b := p.2) hcc
    have hsl := congrArg List.length hsp
    rw [size_list, List.length_append, List.length_cons, List.length_cons] at hsl
    dsimp only
    refine If.neg (decide_eq_false (by omega)) (SlB.mk 0 p.1.length rfl rfl (Nat.zero_le _) (by omega) ?_)
    have hx1 : (ByteArray.extract s 0 p.1.length).data.toList = p.1 := by
      rw [hex, hsp]; simp
    have hx2 : (ByteArray.extract s (p.1.length + 2) s.size).data.toList = p.2 := by
      rw [hex, ← size_list s, hsp]
      have : p.1 ++ 58 :: 58 :: p.2 = (p.1 ++ [58, 58]) ++ p.2 := by simp
      rw [this, List.drop_append_of_le_length (by simp), List.drop_eq_nil_of_le (by simp), List.nil_append, List.take_of_length_le (by simp; omega)]
    have hz1 : (ByteArray.extract s 0 p.1.length).size ≤ 10000000 := by rw [← size_list, hx1]; omega
    have hz2 : (ByteArray.extract s (p.1.length + 2) s.size).size ≤ 10000000 := by rw [← size_list, hx2]; omega
    generalize ByteArray.extract s 0 p.1.length = s1 at hx1 hz1 ⊢
    refine CallK.mk (rread_gives s1 hz1 false W5) ?_
    rintro _ W6 ⟨⟨a, c, x, rfl, ⟨_, _, e1, hsx, hox⟩, hxl, hx⟩, hb1⟩
    have hS := hS.newsl hb1 hsx hox
    refine AsT2.mk (AsL.mk rfl (AsB.mk (SlB.mk (p.1.length + 2) s.size (by rw [wrap_i64 (by omega) (by omega)]; show _ = ((p.1.length + 2 : Nat) : Int); omega) rfl (by omega) (Nat.le_refl _) ?_)))
    generalize ByteArray.extract s (p.1.length + 2) s.size = s2 at hx2 hz2 ⊢
    refine CallK.mk (rread_gives s2 hz2 true W6) ?_
    rintro _ W7 ⟨⟨a', c', y, rfl, ⟨_, _, e2, hsy, hoy⟩, hyl, hy⟩, hb2⟩
    have hS := hS.newsl hb2 hsy hoy
    rw [hx1] at hx
    rw [hx2] at hy
    rw [hx1, hx2]
    refine AsT2.mk (AsL.mk rfl (AsB.mk (Join.or (Join.or ?_))))
    have ew : IntKind.i64.wrap ((x.length : Int) + (y.length : Int)) = ((x.length + y.length : Nat) : Int) := by rw [wrap_i64 (by omega) (by omega)]; omega
    rw [ew]
    refine If.ofB (p := parse6 s.data.toList = none) (by
      rw [hp]
      cases hr : rd p.1 false with
      | none => simp
      | some x' =>
        obtain rfl := hx x' hr
        cases hr2 : rd p.2 true with
        | none => simp
        | some y' =>
          obtain rfl := hy y' hr2
          simp only [Option.isSome_some, Bool.not_true, Bool.false_or, decide_eq_true_eq, Option.bind_some]
          constructor
          · intro h; rw [if_neg (by omega)]
          · intro h; split at h
            · cases h
            · omega) (fun hn => bad (r := [_, _]) hS hn) fun hn => ?_
    obtain ⟨g, hg⟩ : ∃ g, parse6 s.data.toList = some g := by
      cases h : parse6 s.data.toList with
      | none => exact absurd h hn
      | some g => exact ⟨g, rfl⟩
    have hxg : g = x ++ List.replicate (8 - x.length - y.length) 0 ++ y ∧ x.length + y.length < 8 := by
      rw [hp] at hg
      cases hr : rd p.1 false with
      | none => rw [hr] at hg; cases hg
      | some x' =>
        obtain rfl := hx x' hr
        cases hr2 : rd p.2 true with
        | none => rw [hr, hr2] at hg; cases hg
        | some y' =>
          obtain rfl := hy y' hr2
          rw [hr, hr2, Option.bind_some, Option.bind_some] at hg
          split at hg
          · rename_i h8; cases hg; exact ⟨rfl, h8⟩
          · cases hg
    obtain ⟨rfl, h8⟩ := hxg
    refine Lp.of (fun j : Nat => [.int .i64 (j : Int)]) (fun j W' => j ≤ x.length ∧ Ow NoS W W' [.cl q5 (enG (x.take j ++ List.replicate (8 - j) 0)) 168, .cl q4 (enW (0, 0)) 126, .cl q2 (enW (0, 0)) 126, .sl 167 1 enN (.slice a x.length c) x, .sl 167 1 enN (.slice a' y.length c') y]) (fun j => 8 - j) 0 rfl ⟨by omega, hS.pick [2, 3, 4, 1, 0] (by decide) rfl⟩ ?_
    rintro j W8 k ⟨hj, hS⟩ hk
    refine AsI.mk (If.dec (fun hlt => ?_) fun hge => ?_)
    · have hjl : j < x.length := by omega
      refine (hS.rd 3 rfl).get0 enN_len rfl rfl (List.getElem?_eq_getElem hjl) rfl (AsI.mk (IdxA.to rfl (by omega) ?_))
      rw [Nat.mul_one]
      obtain ⟨m, hm⟩ : ∃ m, 8 - j = m + 1 := ⟨7 - j, by omega⟩
      have ht : (x.take j).length = j := by rw [List.length_take]; omega
      have hset := enG_set (x.take j) x[j] 0 (List.replicate m 0)
      rw [ht] at hset
      refine hS.st1 0 rfl (enG (x.take (j + 1) ++ List.replicate (8 - (j + 1)) 0)) ?_ rfl rfl (by rw [enG_len, List.length_append, ht, List.length_replicate]; omega) fun W8 hS => ?_
      · rw [hm, List.replicate_succ, hset, List.take_succ_eq_append_getElem hjl, show 8 - (j + 1) = m by omega]
      · rw [nsucc (by omega)]
        exact hk (j + 1) W8 ⟨by omega, hS⟩ (by omega)
    · have e : x.take j ++ List.replicate (8 - j) 0 = (x ++ List.replicate (8 - x.length - y.length) 0) ++ (y.take 0 ++ List.replicate (y.length - 0) 0) := by
        rw [List.take_of_length_le (by omega), show j = x.length by omega, List.take_zero, List.nil_append, List.append_assoc, List.replicate_append_replicate]
        congr 2; omega
      rw [e] at hS
      refine Lp.of (fun j : Nat => [.int .i64 (j : Int)]) (fun j W' => j ≤ y.length ∧ Ow NoS W W' [.cl q5 (enG ((x ++ List.replicate (8 - x.length - y.length) 0) ++ (y.take j ++ List.replicate (y.length - j) 0))) 168, .cl q4 (enW (0, 0)) 126, .cl q2 (enW (0, 0)) 126, .sl 167 1 enN (.slice a x.length c) x, .sl 167 1 enN (.slice a' y.length c') y]) (fun j => 8 - j) 0 rfl ⟨by omega, hS⟩ ?_
      rintro j' W9 k' ⟨hj', hS⟩ hk'
      refine AsI.mk (If.dec (fun hlt => ?_) fun hge => ?_)
      · have hjl : j' < y.length := by omega
        refine (hS.rd 4 rfl).get0 enN_len rfl rfl (List.getElem?_eq_getElem hjl) rfl (AsI.mk (IdxA.to (j := 8 - y.length + j') (by
          rw [show IntKind.i64.wrap (8 - (y.length : Int)) = 8 - (y.length : Int) from wrap_i64 (by omega) (by omega), wrap_i64 (by omega) (by omega)]; omega) (by omega) ?_))
        rw [Nat.mul_one]
        obtain ⟨m, hm⟩ : ∃ m, y.length - j' = m + 1 := ⟨y.length - j' - 1, by omega⟩
        have ht : (x ++ List.replicate (8 - x.length - y.length) 0 ++ y.take j').length = 8 - y.length + j' := by rw [List.length_append, List.length_append, List.length_take, List.length_replicate]; omega
        have hset := enG_set (x ++ List.replicate (8 - x.length - y.length) 0 ++ y.take j') y[j'] 0 (List.replicate m 0)
        rw [ht] at hset
        refine hS.st1 0 rfl (enG (x ++ List.replicate (8 - x.length - y.length) 0 ++ (y.take (j' + 1) ++ List.replicate (y.length - (j' + 1)) 0))) ?_ rfl rfl (by rw [enG_len, hm, List.replicate_succ, ← List.append_assoc, List.length_append, ht, List.length_cons, List.length_replicate]; omega) fun W8 hS => ?_
        · rw [hm, List.replicate_succ, ← List.append_assoc, hset, List.take_succ_eq_append_getElem hjl, show y.length - (j' + 1) = m by omega]
          simp only [List.append_assoc]
        · rw [nsucc (by omega)]
          exact hk' (j' + 1) W8 ⟨by omega, hS⟩ (by omega)
      · have e : y.take j' ++ List.replicate (y.length - j') 0 = y := by rw [List.take_of_length_le (by omega), show y.length - j' = 0 by omega]; simp
        rw [e] at hS
        exact good (r := [_, _]) hS hg)
end Go.Proofs.YtngecegnlhmnlaaGreatDoor.Si
namespace Go.Proofs.YtngecegnlhmnlaaGreatDoor.Fs
open Go Go.RowKit Go.Vc
set_option linter.unusedVariables false
def F89 (g0 : Array Value) (Q : Value → World → Prop) (kp : List PanicEntry → World → Prop) (W : World) : Prop :=
  NewA g0 126 W fun q1 W_1 =>
  LdNC W_1 q1 2 fun l8 =>
  CallK Tryz.prog 145 #[.agg l8.toArray] W_1 kp fun u9 W_2 =>
  NewA #[.int .u16 0, .int .u16 0, .int .u16 0, .int .u16 0, .int .u16 0, .int .u16 0, .int .u16 0, .int .u16 0] 168 W_2 fun q3 W_3 =>
  StV 8 W_3 q3 u9 fun W_4 =>
  LdNC W_4 q3 8 fun l11 =>
  CallK Tryz.prog 146 #[.agg l11.toArray] W_4 kp fun u12 W_5 =>
  AsT2 u12 fun u12a u12b =>
  AsI .i64 u12a fun x12a =>
  AsI .i64 u12b fun x12b =>
  Lp (fun s W_6 k =>
  AsS (s.getD 0 undef) fun s6 =>
  AsI .i64 (s.getD 1 undef) fun x7 =>
  If (decide ((x7 : Int) < 8)) (Join (fun (s6_1 : ByteArray) (W_7 : World) =>
  k [.string s6_1, .int .i64 (IntKind.i64.wrap (x7 + 1))] W_7) fun (J : ByteArray → World → Prop) =>
  Join (fun (b25 : Bool) (W_8 : World) =>
  Join (fun (b32 : Bool) (W_9 : World) =>
  If b32 (Join (fun (s6_2 : ByteArray) (W_10 : World) =>
  J s6_2 W_10) fun (J_3 : ByteArray → World → Prop) =>
  If ((x7 : Int) == x12a) (Cat s6 (⟨#[58, 58]⟩) <|
  J_3 (s6 ++ (⟨#[58, 58]⟩)) W_9) (J_3 s6 W_9)) (Join (fun (b51 : Bool) (W_11 : World) =>
  Join (fun (s6_3 : ByteArray) (W_12 : World) =>
  IdxA q3 8 x7 1 fun q56 =>
  Ld1 W_12 q56 fun u57 =>
  AsI .u16 u57 fun x57 =>
  CallK Tryz.prog 147 #[.int .u16 x57] W_12 kp fun u58 W_13 =>
  AsS u58 fun s58 =>
  Cat s6_3 s58 <|
  J (s6_3 ++ s58) W_13) fun (J_5 : ByteArray → World → Prop) =>
  If b51 (Cat s6 (⟨#[58]⟩) <|
  J_5 (s6 ++ (⟨#[58]⟩)) W_11) (J_5 s6 W_11)) fun (J_4 : Bool → World → Prop) =>
  If (decide ((x7 : Int) > 0)) (Join (fun (b49 : Bool) (W_14 : World) =>
  J_4 (!b49) W_14) fun (J_6 : Bool → World → Prop) =>
  If (decide ((x12b : Int) > 0)) (J_6 ((x7 : Int) == (IntKind.i64.wrap (x12a + x12b))) W_9) (J_6 false W_9)) (J_4 false W_9))) fun (J_2 : Bool → World → Prop) =>
  If b25 (J_2 (decide ((x7 : Int) < (IntKind.i64.wrap (x12a + x12b)))) W_8) (J_2 false W_8)) fun (J_1 : Bool → World → Prop) =>
  If (decide ((x12b : Int) > 0)) (J_1 (decide ((x7 : Int) ≥ x12a)) W_6) (J_1 false W_6)) (Q (.string s6) W_6)) [.string (⟨#[]⟩), .int .i64 0] W_5
theorem F89_eq (g0 : Array Value) (Q : Value → World → Prop) (kp : List PanicEntry → World → Prop) (W : World) : vcFn Tryz.prog [] Tryz.f89 [.agg g0] W Q kp = F89 g0 Q kp W := by kernel_rfl
theorem F89_ok : okFn Tryz.f89 1 = true := by kernel_rfl
theorem F89_fn {g0 : Array Value} {Q : Value → World → Prop} {W : World} (h : F89 g0 Q (fun _ _ => False) W) : Gives Tryz.prog 89 #[.agg g0] W Q := fn_of_vc (plan := []) mixed Tryz.func89 F89_ok (by rw [F89_eq]; exact h)
end Go.Proofs.YtngecegnlhmnlaaGreatDoor.Fs
namespace Go.Vc
open Go Go.RowKit
def Res.by (b : Nat) (c : List Value) (t : TypeId) : Res := ⟨fun x => x = b, fun W => ∃ fz : Nat × Nat, W.heap[b]? = some (.cells c.toArray t fz) ∧ (fz.2 = 0 ∨ c.length ≤ fz.1), fun hf h ⟨fz, k, hz⟩ => ⟨fz, hf.at (h b rfl) k, hz⟩⟩
section
variable {S : Nat → Prop} {W0 W : World} {rs : List Res} {P : Program} {b : Nat} {c : List Value} {t : TypeId}
theorem Ow.byAt {n : Nat} {u : Value} {k : Value → Prop} (h : Ow S W0 W rs) (i : Nat) (hi : rs[i]? = some (.by b c t)) (hu : c[n]? = some u) (hk : k u) : Ld1 W (Addr.add ⟨b, 0, none⟩ n) k := by
  obtain ⟨fz, hb, hz⟩ := h.get i hi
  exact Ld1.ad hb (by simpa using hu) hk
theorem Ow.bySet {j : Nat} {v : Value} {k : World → Prop} (h : Ow S W0 W rs) (i : Nat) (hi : rs[i]? = some (.by b c t)) (hv : v.cells = #[v]) (h1 : oneC v = true) (hlt : j < c.length) (hk : ∀ W', Ow S W0 W' (rs.set i (.by b (c.set j v) t)) → k W') : StV 1 W (Addr.add ⟨b, 0, none⟩ j) v k := by
  obtain ⟨fz, hb, hz⟩ := h.get i hi
  rw [add_at]
  refine StV.mkz hb (by simp only [Nat.zero_add]; rcases hz with hz | hz
                        · left; omega
                        · right; omega) (by rw [hv]; rfl) (by simp; omega) (by rw [hv]; simpa using h1) ?_
  refine hk _ (h.upd hi (Fr.setBlk (S := fun x => x = b) rfl _ _) (.by b (c.set j v) t) ⟨fz, ?_, by simpa using hz⟩ fun x hx => .inl hx)
  rw [setBlk_same hb]
  congr 2
  apply Array.ext'
  rw [hv]
  simp only [Nat.zero_add, List.toList_toArray]
  rw [List.set_eq_take_append_cons_drop, if_pos hlt]; simp
theorem Ow.bytesOf {src dst e : TypeId} {s : ByteArray} {u : TypeDesc} {k : Value → World → Prop} (h : Ow S W0 W rs) (hs : P.underlying src = some u) (hd : P.underlying dst = some (.slice e)) (he : P.underlying e = some (.int .u8))
    (hk : ∀ b c cs W', cs.length = c → cs.take s.size = s.data.toList.map (fun x => Value.int .u8 (x.toNat : Int)) → Ow S W0 W' (.by b cs e :: rs) → k (.slice (some ⟨b, 0, none⟩) s.size c) W') : RunW P (convert src dst (.string s)) W k := by
  refine ⟨_, _, Lib.run_convert_string_bytes W src dst e s hs hd he, hk W.heap.size _ (Lib.bytesCells W e s).toList _ ?_ ?_ (h.push ?_ _ ⟨((Lib.bytesCells W e s).size, (Lib.bytesCells W e s).size + 1), ?_, .inr ?_⟩ fun x hx => ?_)⟩
  · unfold Lib.bytesCells
    have := grownCap_ge W s.size 0 e
    simp only [Array.toList_append, Array.length_toList, Array.size_append, Array.size_map, Array.size_replicate]
    simp only [List.length_append, Array.length_toList, Array.size_map, Array.size_replicate]
    have e1 : s.data.size = s.size := rfl
    omega
  · unfold Lib.bytesCells
    have e1 : (s.data.map fun b => Value.int .u8 (b.toNat : Int)).toList.length = s.size := by rw [Array.length_toList, Array.size_map]; rfl
    rw [Array.toList_append, List.take_append_of_le_length (by rw [e1]; exact Nat.le_refl _), List.take_of_length_le (by rw [e1]; exact Nat.le_refl _)]
    simp
  · exact ⟨rfl, rfl, rfl, by rw [Lib.bytesWorld_size]; omega, fun j hj => Lib.bytesWorld_at_old W e s j hj⟩
  · rw [Array.toArray_toList]; exact Lib.bytesWorld_at_new W e s
  · simp
  · cases hx; exact ⟨Nat.le_refl _, by rw [Lib.bytesWorld_size]; omega⟩
end
end Go.Vc
namespace Go.Proofs.YtngecegnlhmnlaaGreatDoor.Si
open Go Go.RowKit Go.Vc Go.Proofs.YtngecegnlhmnlaaGreatDoor Go.Proofs.YtngecegnlhmnlaaGreatDoor.Fs Go.Proofs.YtngecegnlhmnlaaGreatDoor.Fo
theorem jn_snoc (c : UInt8) (x : List UInt8) : ∀ xs : List (List UInt8), jn c (xs ++ [x]) = if xs = [] then x else jn c xs ++ c :: x
  | [] => rfl
  | [y] => rfl
  | y :: z :: r => by
    have ih := jn_snoc c x (z :: r)
    rw [if_neg (by simp)] at ih ⊢
    rw [List.cons_append, jn_cons c y (by simp), ih, jn_cons c y (by simp)]
    simp
def prI (g : List Nat) (a n i : Nat) : List UInt8 := if n = 0 ∨ i ≤ a then jn 58 ((g.take i).map hx) else if i ≤ a + n then jn 58 ((g.take a).map hx) ++ [58, 58] else jn 58 ((g.take a).map hx) ++ [58, 58] ++ jn 58 (((g.drop (a + n)).take (i - (a + n))).map hx)
theorem prI_zero (g : List Nat) (a n : Nat) : prI g a n 0 = [] := by
  unfold prI
  rw [if_pos (.inr (Nat.zero_le _))]; rfl
theorem prI_end {g : List Nat} {a n : Nat} (hl : g.length = 8) (han : a + n ≤ 8) : prI g a n 8 = txt hx g a n := by
  unfold prI txt
  by_cases h0 : n = 0
  · rw [if_pos (.inl h0), if_pos h0, List.take_of_length_le (by omega)]
  · rw [if_neg (by omega), if_neg h0]
    by_cases h8 : a + n = 8
    · rw [if_pos (by omega), List.drop_eq_nil_of_le (by omega)]; rfl
    · have e : (g.drop (a + n)).take (8 - (a + n)) = g.drop (a + n) := List.take_of_length_le (by rw [List.length_drop]; omega)
      rw [if_neg (by omega), e]; simp
theorem prI_in {g : List Nat} {a n i : Nat} (h0 : 0 < n) (h1 : a ≤ i) (h2 : i < a + n) : prI g a n (i + 1) = if i = a then prI g a n i ++ [58, 58] else prI g a n i := by
  unfold prI
  rw [if_neg (by omega), if_pos (by omega)]
  by_cases h : i = a
  · rw [if_pos h, if_pos (.inr (by omega)), h]
  · rw [if_neg h, if_neg (by omega), if_pos (by omega)]
theorem prI_out {g : List Nat} {a n i : Nat} (hl : g.length = 8) (han : a + n ≤ 8) (hi : i < g.length) (h : ¬ (0 < n ∧ a ≤ i ∧ i < a + n)) : prI g a n (i + 1) = (if 0 < i ∧ ¬ (0 < n ∧ i = a + n) then prI g a n i ++ [58] else prI g a n i) ++ hx g[i] := by
  unfold prI
  by_cases h0 : n = 0 ∨ i < a
  · rw [if_pos (show n = 0 ∨ i + 1 ≤ a by omega), if_pos (show n = 0 ∨ i ≤ a by omega), List.take_succ_eq_append_getElem hi, List.map_append, List.map_cons, List.map_nil, jn_snoc]
    by_cases hi0 : i = 0
    · subst hi0; rw [if_pos (by simp), if_neg (by omega)]; simp [jn]
    · rw [if_neg (by
        intro e
        have := congrArg List.length e
        rw [List.length_map, List.length_take, List.length_nil] at this; omega), if_pos (by omega)]
      simp
  · have hin : a + n ≤ i := by omega
    rw [if_neg (by omega), if_neg (by omega), if_neg (show ¬ (n = 0 ∨ i ≤ a) by omega)]
    obtain ⟨m, rfl⟩ : ∃ m, i = a + n + m := ⟨i - (a + n), by omega⟩
    have hm : m < (g.drop (a + n)).length := by rw [List.length_drop]; omega
    have e1 : a + n + m + 1 - (a + n) = m + 1 := by omega
    have e2 : a + n + m - (a + n) = m := by omega
    have e3 : (g.drop (a + n))[m] = g[a + n + m] := List.getElem_drop ..
    rw [e1, e2, List.take_succ_eq_append_getElem hm, List.map_append, List.map_cons, List.map_nil, jn_snoc, e3]
    by_cases hm0 : m = 0
    · subst hm0
      rw [if_pos (show ((g.drop (a + n)).take 0).map hx = [] from rfl), if_pos (show a + n + 0 ≤ a + n by omega), if_neg (show ¬ (0 < a + n + 0 ∧ ¬ (0 < n ∧ a + n + 0 = a + n)) by omega)]
    · rw [if_neg (by
        intro e
        have := congrArg List.length e
        rw [List.length_map, List.length_take, List.length_nil] at this; omega), if_neg (show ¬ a + n + m ≤ a + n by omega), if_pos (show 0 < a + n + m ∧ ¬ (0 < n ∧ a + n + m = a + n) by omega)]
      simp only [List.append_assoc, List.cons_append, List.nil_append]
theorem prI_len {g : List Nat} {a n i : Nat} (hl : g.length = 8) : (prI g a n i).length ≤ 100 := by
  have four : ∀ ms : List Nat, ∀ x ∈ ms.map hx, x.length ≤ 4 := fun ms x hx' => by
    obtain ⟨z, _, rfl⟩ := List.mem_map.1 hx'
    exact (hx_len z).2
  have b : ∀ ms : List Nat, ms.length ≤ 8 → (jn 58 (ms.map hx)).length ≤ 40 := fun ms h => by
    have := jn_long 58 _ (four ms)
    rw [List.length_map] at this; omega
  have b1 := b (g.take i) (by rw [List.length_take]; omega)
  have b2 := b (g.take a) (by rw [List.length_take]; omega)
  have b3 := b ((g.drop (a + n)).take (i - (a + n))) (by rw [List.length_take, List.length_drop]; omega)
  unfold prI
  split
  · omega
  · split
    · rw [List.length_append]; simp only [List.length_cons, List.length_nil]; omega
    · rw [List.length_append, List.length_append]; simp only [List.length_cons, List.length_nil]; omega
theorem rprint6_gives (x : Nat × Nat) (h1 : x.1 < 18446744073709551616) (h2 : x.2 < 18446744073709551616) (W : World) :
    Gives Tryz.prog 89 #[.agg (enW x).toArray] W fun v W' => v = .string (bs (text6 (gs x.1 x.2))) ∧ Below W.heap.size W W' := F89_fn (by
  unfold F89
  have hS := Ow.start NoS W
  refine hS.new fun b1 W1 hS => hS.ldw 0 rfl rfl (hS.callv (rgroups_gives x h1 h2 W1) fun W2 hS => ?_)
  have hl : (gs x.1 x.2).length = 8 := rfl
  have hlt := gs_lt x.1 x.2
  generalize gs x.1 x.2 = g at hl hlt ⊢
  have hg : (enG g).length = 8 := by rw [enG_len]; exact hl
  have hg1 : (enG g).all oneC = true := by unfold enG; rw [List.all_map, List.all_eq_true]; intro _ _; rfl
  refine hS.new fun b3 W3 hS => hS.stw 0 rfl (cs := enG g) rfl hg hg1 fun W4 hS => hS.ldw 0 rfl hg (hS.callv (rrun_gives hl W4) fun W5 hS => AsT2.mk (AsI.mk (AsI.mk ?_)))
  obtain ⟨r1, r2, r3, r4⟩ := run_g hl
  have ht : text6 g = prI g (run (zs g)).1 (run (zs g)).2 8 := (prI_end hl r1).symm
  rw [ht]
  generalize run (zs g) = r at r1 r2 r3 r4 ⊢
  clear ht
  have mx : IntKind.i64.max = 9223372036854775807 := by kernel_rfl
  have ew : IntKind.i64.wrap ((r.1 : Int) + (r.2 : Int)) = ((r.1 + r.2 : Nat) : Int) := by rw [wrap_i64 (by omega) (by omega)]; omega
  refine Lp.of (fun i : Nat => [.string (bs (prI g r.1 r.2 i)), .int .i64 (i : Int)]) (fun i W' => i ≤ 8 ∧ Ow NoS W W' [.cl b3 (enG g) 168, .cl b1 (enW x) 126]) (fun i => 8 - i) 0 (by rw [prI_zero]; rfl) ⟨Nat.zero_le _, hS⟩ ?_
  rintro i W6 k ⟨hi, hS⟩ hk
  have hpl := prI_len (a := r.1) (n := r.2) (i := i) hl
  refine AsS.mk (AsI.mk (If.dec (fun hlt' => ?_) fun hge => ?_))
  · have hil : i < g.length := by omega
    have hn := hlt g[i] (List.getElem_mem hil)
    rw [ew]
    refine Join.use fun J hJ => Join.and (Join.and ?_)
    have go : ∀ (s : List UInt8) (W' : World), s = prI g r.1 r.2 (i + 1) → Ow NoS W W' [.cl b3 (enG g) 168, .cl b1 (enW x) 126] → J (bs s) W' := fun s W' hs hS => by
      rw [hJ]; dsimp only
      rw [hs, nsucc (by omega)]
      exact hk (i + 1) W' ⟨by omega, hS⟩ (by omega)
    refine If.ofB (p := 0 < r.2 ∧ r.1 ≤ i ∧ i < r.1 + r.2) (by
      simp only [Bool.and_eq_true, decide_eq_true_eq]; omega) (fun hin => ?_) fun hout => ?_
    · have hp := prI_in (g := g) hin.1 hin.2.1 hin.2.2
      refine Join.use fun J3 hJ3 => If.beq (fun h => ⟨?_, ?_⟩) fun h => ?_
      · rw [bs_size, mx]
        have : (⟨#[58, 58]⟩ : ByteArray).size = 2 := rfl
        omega
      · have e2 : (⟨#[58, 58]⟩ : ByteArray) = bs [58, 58] := rfl
        rw [hJ3, e2, bs_app]
        rw [if_pos (by omega)] at hp
        exact go _ W6 hp.symm hS
      · rw [hJ3]
        rw [if_neg (by omega)] at hp
        exact go _ W6 hp.symm hS
    · have hp := prI_out hl r1 hil hout
      refine Join.use fun J4 hJ4 => ?_
      have j4 : ∀ b : Bool, (b = true ↔ 0 < i ∧ ¬ (0 < r.2 ∧ i = r.1 + r.2)) → J4 b W6 := fun b hb => by
        rw [hJ4]; dsimp only
        refine Join.use fun J5 hJ5 => ?_
        have j5 : ∀ s : List UInt8, s ++ hx g[i] = prI g r.1 r.2 (i + 1) → s.length ≤ 200 → J5 (bs s) W6 := fun s hs hsl => by
          rw [hJ5]; dsimp only
          refine IdxA.to rfl (by omega) ?_
          rw [Nat.mul_one]
          refine hS.ldA 0 rfl (enG_at hil) (AsI.mk ?_)
          refine hS.callv (rdigits_gives hn W6) fun W7 hS => AsS.mk ⟨?_, ?_⟩
          · rw [bs_size, bs_size, mx]
            have := (hx_len g[i]).2
            omega
          · rw [bs_app]
            exact go _ W7 hs hS
        refine If.ofB hb (fun h => ⟨?_, ?_⟩) fun h => ?_
        · rw [bs_size, mx]
          have : (⟨#[58]⟩ : ByteArray).size = 1 := rfl
          omega
        · have e2 : (⟨#[58]⟩ : ByteArray) = bs [58] := rfl
          rw [e2, bs_app]
          rw [if_pos h] at hp
          exact j5 _ hp.symm (by rw [List.length_append]; simp only [List.length_cons, List.length_nil]; omega)
        · rw [if_neg h] at hp
          exact j5 _ hp.symm (by omega)
      refine If.dec (fun h0 => Join.use fun J6 hJ6 => If.dec (fun hn0 => ?_) fun hn0 => ?_) fun h0 => j4 false ⟨fun e => (by cases e), fun e => (by omega)⟩
      · rw [hJ6]; dsimp only
        refine j4 _ ?_
        rw [Bool.not_eq_true', beq_eq_false_iff_ne]; omega
      · rw [hJ6]; dsimp only
        refine j4 _ ⟨fun _ => by omega, fun _ => rfl⟩
  · have : i = 8 := by omega
    subst this
    exact ⟨rfl, hS.bel⟩)
end Go.Proofs.YtngecegnlhmnlaaGreatDoor.Si
namespace Go.Proofs.YtngecegnlhmnlaaGreatDoor.Si
open Go Go.RowKit Go.Vc Go.Proofs.YtngecegnlhmnlaaGreatDoor Go.Proofs.YtngecegnlhmnlaaGreatDoor.Fs Go.Proofs.YtngecegnlhmnlaaGreatDoor.Fo
theorem eqW : EqTy Tryz.prog 120 [.int .u64, .int .u64] := ⟨by kernel_rfl, by kernel_rfl, by kernel_rfl, by kernel_rfl, by kernel_rfl⟩
theorem typedW {x : Nat × Nat} (h1 : x.1 < 18446744073709551616) (h2 : x.2 < 18446744073709551616) : Typed [.int .u64, .int .u64] (enW x) :=
  ⟨⟨x.1, rfl, wf_u64.2 (by omega)⟩, ⟨x.2, rfl, wf_u64.2 (by omega)⟩, trivial⟩
end Go.Proofs.YtngecegnlhmnlaaGreatDoor.Si
namespace Go.Proofs.YtngecegnlhmnlaaGreatDoor.Si
open Go Go.RowKit Go.Vc Go.Proofs.YtngecegnlhmnlaaGreatDoor Go.Proofs.YtngecegnlhmnlaaGreatDoor.Fs Go.Proofs.YtngecegnlhmnlaaGreatDoor.Fo
theorem lf_nat {k : IntKind} {v : Value} {hi : Int} (hw : ∀ n : Int, (Lit.int k n).wf = true ↔ 0 ≤ n ∧ n ≤ hi) (h : Lf.ok (.int k) v) : ∃ n : Nat, v = .int k (n : Int) ∧ (n : Int) ≤ hi := by
  obtain ⟨n, rfl, hn⟩ := h
  have := (hw n).1 hn
  exact ⟨n.toNat, by rw [Int.toNat_of_nonneg this.1], by rw [Int.toNat_of_nonneg this.1]; exact this.2⟩
end Go.Proofs.YtngecegnlhmnlaaGreatDoor.Si
namespace Go.Proofs.YtngecegnlhmnlaaGreatDoor.Ke
open Go Go.RowKit Go.Vc Go.Proofs.YtngecegnlhmnlaaGreatDoor.Fs Go.Proofs.YtngecegnlhmnlaaGreatDoor.Fo Go.Proofs.YtngecegnlhmnlaaGreatDoor.Wi
open Go.Proofs.YtngecegnlhmnlaaGreatDoor.Si hiding hv
theorem and0 (a b : Nat) (ha : a < 18446744073709551616) (hb : b < 18446744073709551616) : IntKind.u64.wrap ((((BitVec.ofInt (IntKind.u64).bits (a : Int)) &&& (BitVec.ofInt (IntKind.u64).bits (b : Int))).toNat : Int)) = ((a &&& b : Nat) : Int) := by
  have e2 : ∀ n : Nat, n < 18446744073709551616 → (BitVec.ofInt (IntKind.u64).bits (n : Int)).toNat = n := fun n h => by
    have b : (IntKind.u64).bits = 64 := rfl
    rw [b, BitVec.toNat_ofInt]
    omega
  rw [BitVec.toNat_and, e2 a ha, e2 b hb, w64]
  have : a &&& b ≤ a := Nat.and_le_left
  rw [Nat.mod_eq_of_lt (by omega)]
theorem wAnd_gives {x y : Nat × Nat} (h1 : x.1 < 18446744073709551616) (h2 : x.2 < 18446744073709551616) (h3 : y.1 < 18446744073709551616) (h4 : y.2 < 18446744073709551616) (W : World) :
    Gives Tryz.prog 207 #[.agg (enW x).toArray, .agg (enW y).toArray] W fun v W' => v = .agg (enW (x.1 &&& y.1, x.2 &&& y.2)).toArray ∧ Below W.heap.size W W' := F207_fn (by
  unfold F207
  have hS := Ow.start NoS W
  refine hS.new fun b1 W1 hS => hS.new fun b2 W2 hS => hS.new fun b3 W3 hS => ?_
  refine hS.ld 2 rfl rfl (AsI.mk ?_)
  refine hS.ld 1 rfl rfl (AsI.mk ?_)
  refine hS.ldA 2 rfl rfl (AsI.mk ?_)
  refine hS.ldA 1 rfl rfl (AsI.mk ?_)
  rw [and0 _ _ h1 h3, and0 _ _ h2 h4]
  exact BldC.mk (cs := enW (x.1 &&& y.1, x.2 &&& y.2)) ⟨rfl, by decide, rfl, by decide, trivial⟩ rfl (hS.stw 0 rfl (cs := enW (x.1 &&& y.1, x.2 &&& y.2)) rfl rfl rfl fun W4 hS => hS.ldw 0 rfl (show (enW (x.1 &&& y.1, x.2 &&& y.2)).length = 2 from rfl) ⟨rfl, hS.bel⟩))
def upTo (n : Int) : Nat := min n.toNat 128
theorem wMask_gives (n : Int) (W : World) : Gives Tryz.prog 208 #[.int .i64 n] W fun v W' => v = .agg (enW (hv (2 ^ 128 - 2 ^ (128 - upTo n)))).toArray ∧ Below W.heap.size W W' := F208_fn (by
  unfold F208
  have hS := Ow.start NoS W
  refine hS.new fun b1 W1 hS => BldC.mk (cs := enW (18446744073709551615, 18446744073709551615)) ⟨rfl, by decide, rfl, by decide, trivial⟩ rfl (hS.new fun b2 W2 hS => hS.stw 0 rfl (cs := enW (18446744073709551615, 18446744073709551615)) rfl rfl rfl fun W3 hS => If.dec (fun h0 => ?_) fun h0 => ?_)
  · have e : upTo n = 0 := by unfold upTo; omega
    have e2 : hv (2 ^ 128 - 2 ^ (128 - upTo n)) = (0, 0) := by rw [e]; rfl
    rw [e2]
    exact BldC.mk (cs := enW (0, 0)) trivial rfl (hS.stw 1 rfl (cs := enW (0, 0)) rfl rfl rfl fun W4 hS => hS.ldw 1 rfl rfl ⟨rfl, hS.bel⟩)
  · have e : IntKind.i64.wrap (128 - (if (128 : Int) < n then 128 else n)) = ((128 - upTo n : Nat) : Int) := by
      unfold upTo
      split
      · rw [wrap_i64 (by omega) (by omega)]; omega
      · rw [wrap_i64 (by omega) (by omega)]; omega
    rw [e]
    refine hS.ldw 0 rfl rfl (hS.callv (left_gives (18446744073709551615, 18446744073709551615) (by decide) (by decide) (128 - upTo n) (by omega) W3) fun W4 hS => ?_)
    have e2 : val (18446744073709551615, 18446744073709551615) = 340282366920938463463374607431768211455 := rfl
    rw [e2, hv_mask (by omega)]
    exact hS.stw 1 rfl (cs := enW (hv (2 ^ 128 - 2 ^ (128 - upTo n)))) rfl rfl rfl fun W5 hS => hS.ldw 1 rfl rfl ⟨rfl, hS.bel⟩)
theorem wTop_gives {x : Nat × Nat} (h1 : x.1 < 18446744073709551616) (h2 : x.2 < 18446744073709551616) (n : Int) (W : World) :
    Gives Tryz.prog 183 #[.agg (enW x).toArray, .int .i64 n] W fun v W' => v = .agg (enW (hv (first (val x) (upTo n)))).toArray ∧ Below W.heap.size W W' := F183_fn (by
  unfold F183
  have hS := Ow.start NoS W
  refine hS.new fun b1 W1 hS => hS.new fun b2 W2 hS => hS.ldw 1 rfl rfl (hS.any fun W3 hS => hS.callv (wMask_gives n W3) fun W4 hS => ?_)
  have hm := hv_lt (2 ^ 128 - 2 ^ (128 - upTo n))
  refine hS.stn 1 rfl rfl (hS.callv (wAnd_gives h1 h2 hm.1 hm.2 W4) fun W5 hS => ?_)
  have e : (x.1 &&& (hv (2 ^ 128 - 2 ^ (128 - upTo n))).1, x.2 &&& (hv (2 ^ 128 - 2 ^ (128 - upTo n))).2) = hv (first (val x) (upTo n)) := by
    have h := hv_and (val x) (2 ^ 128 - 2 ^ (128 - upTo n))
    rw [hv_val h1 h2, first_and (val_lt h1 h2)] at h
    exact h
  rw [e]
  exact hS.stw 0 rfl (cs := enW (hv (first (val x) (upTo n)))) rfl rfl rfl fun W6 hS => hS.ldw 0 rfl rfl ⟨rfl, hS.bel⟩)
theorem wBit_gives {x : Nat × Nat} (h1 : x.1 < 18446744073709551616) (h2 : x.2 < 18446744073709551616) (i : Nat) (hi : i < 128) (W : World) :
    Gives Tryz.prog 194 #[.agg (enW x).toArray, .int .i64 (i : Int)] W fun v W' => v = .bool (decide (bitAt (val x) i = 1)) ∧ Below W.heap.size W W' := F194_fn (by
  unfold F194
  have hS := Ow.start NoS W
  refine hS.new fun b1 W1 hS => Join.use fun J hJ => If.dec (fun h => by omega) fun _ => ?_
  rw [hJ]; dsimp only
  rw [decide_eq_false (show ¬ (i : Int) ≥ 128 by omega)]
  refine If.neg rfl (hS.ldw 0 rfl rfl ?_)
  have e : IntKind.i64.wrap (127 - (i : Int)) = ((127 - i : Nat) : Int) := by rw [wrap_i64 (by omega) (by omega)]; omega
  rw [e]
  refine hS.callv (rightN_gives x h1 h2 (127 - i) (by omega) W1) fun W2 hS => show Fld (enW (hv (val x / 2 ^ (127 - i)))).toArray 1 _ from ⟨_, rfl, AsI.mk ⟨?_, hS.bel⟩⟩
  have hl := hv_lt (val x / 2 ^ (127 - i))
  have a0 := and0 (hv (val x / 2 ^ (127 - i))).2 1 hl.2 (by decide)
  rw [show ((1 : Nat) : Int) = 1 from rfl] at a0
  rw [a0, Nat.and_one_is_mod]
  have e2 : (hv (val x / 2 ^ (127 - i))).2 % 2 = bitAt (val x) i := by unfold hv bitAt; dsimp only; omega
  rw [e2]
  congr 1
  rw [Bool.eq_iff_iff, beq_iff_eq, decide_eq_true_eq]
  omega)
theorem nan_gives (x : Int) (W : World) : Gives Tryz.prog 205 #[.int .u64 x] W fun v W' => v = .bool false ∧ Below W.heap.size W W' := F205_fn (by
  unfold F205
  exact ⟨by rw [bne_self_eq_false], Below.refl _ _⟩)
def cmpN (x y : Nat) : Int := if x < y then -1 else if y < x then 1 else 0
theorem ccmp_gives (x y : Nat) (W : World) : Gives Tryz.prog 180 #[.int .u64 (x : Int), .int .u64 (y : Int)] W fun v W' => v = .int .i64 (cmpN x y) ∧ Below W.heap.size W W' := F180_fn (by
  unfold F180 cmpN
  have hS := Ow.start NoS W
  refine hS.callv (nan_gives x W) fun W1 hS => AsB.mk (hS.callv (nan_gives y W1) fun W2 hS => AsB.mk (If.neg rfl (If.neg rfl (If.dec (fun h => ?_) fun h => If.dec (fun h' => ?_) fun h' => ?_))))
  · rw [if_pos (by omega)]; exact ⟨rfl, hS.bel⟩
  · rw [if_neg (by omega), if_pos (by omega)]; exact ⟨rfl, hS.bel⟩
  · rw [if_neg (by omega), if_neg (by omega)]; exact ⟨rfl, hS.bel⟩)
def enI (n : Int) : List Value := [.int .i64 n]
theorem enI_len (n : Int) : (enI n).length = 1 := rfl
def orI : List Int → Int
  | [] => 0
  | x :: r => if x = 0 then orI r else x
theorem cor_gives {W : World} {a : Option Addr} {c : Nat} {xs : List Int} (hl : xs.length ≤ 100000) (h : RdL W 1 enI a xs) :
    Gives Tryz.prog 179 #[.slice a xs.length c] W fun v W' => v = .int .i64 (orI xs) ∧ W' = W := F179_fn (by
  unfold F179
  refine Lp.of (fun j : Nat => [.int .i64 0, .int .i64 (j : Int)]) (fun j W' => j ≤ xs.length ∧ orI xs = orI (xs.drop j) ∧ W' = W) (fun j => xs.length - j) 0 rfl ⟨Nat.zero_le _, rfl, rfl⟩ ?_
  rintro j W1 k ⟨hj, he, rfl⟩ hk
  refine AsI.mk (AsI.mk (If.dec (fun hlt => ?_) fun hge => ?_))
  · have hjl : j < xs.length := by omega
    have rp := List.getElem?_eq_getElem hjl
    rw [List.drop_eq_getElem_cons hjl, orI] at he
    refine h.get0 enI_len rfl rfl rp (u := .int .i64 xs[j]) rfl (AsI.mk (If.val ?_))
    split
    · rename_i hne
      rw [if_neg (by simpa using hne)] at he
      exact ⟨by rw [he], rfl⟩
    · rename_i hne
      rw [if_pos (by simpa using hne)] at he
      rw [nsucc (by omega)]
      exact hk (j + 1) _ ⟨hjl, he, rfl⟩ (by omega)
  · rw [List.drop_eq_nil_of_le (by omega)] at he
    exact ⟨by rw [he]; rfl, rfl⟩)
theorem wCmp_gives {x y : Nat × Nat} (h2 : x.2 < 18446744073709551616) (h4 : y.2 < 18446744073709551616) (W : World) :
    Gives Tryz.prog 130 #[.agg (enW x).toArray, .agg (enW y).toArray] W fun v W' => v = .int .i64 (cmpN (val x) (val y)) ∧ Below W.heap.size W W' := F130_fn (by
  unfold F130
  have hS := Ow.start NoS W
  refine hS.new fun b1 W1 hS => hS.new fun b2 W2 hS => ?_
  refine hS.ld 0 rfl rfl (AsI.mk (hS.ldA 1 rfl rfl (AsI.mk (hS.ldA 0 rfl rfl (AsI.mk (hS.any fun W3 hS => hS.ld 1 rfl rfl (AsI.mk ?_)))))))
  refine hS.callv (ccmp_gives x.1 y.1 W3) fun W4 hS => AsI.mk (hS.stlA 1 rfl rfl (hS.stlA 0 rfl rfl ?_))
  refine hS.callv (ccmp_gives x.2 y.2 W4) fun W5 hS => AsI.mk ?_
  refine hS.news (cs := [.int .i64 (cmpN x.1 y.1), .int .i64 (cmpN x.2 y.2)]) ⟨rfl, by decide, rfl, by decide, trivial⟩ (by kernel_rfl) fun q W6 hS => ?_
  have hrd : RdL W6 1 enI (some ⟨q, 0, none⟩) [cmpN x.1 y.1, cmpN x.2 y.2] := ⟨fun h => (nomatch h), fun p hp => by cases hp; exact cells_row (hS.get 0 rfl)⟩
  refine CallK.mk (cor_gives (c := 2) (xs := [cmpN x.1 y.1, cmpN x.2 y.2]) (Nat.le_of_ble_eq_true rfl) hrd) ?_
  rintro _ W7 ⟨rfl, rfl⟩
  refine AsI.mk ⟨?_, hS.bel⟩
  congr 1
  unfold orI orI orI cmpN val
  obtain ⟨a, b⟩ := x
  obtain ⟨c, d⟩ := y
  dsimp only at *
  repeat' split
  all_goals omega)
end Go.Proofs.YtngecegnlhmnlaaGreatDoor.Ke
namespace Go.Proofs.YtngecegnlhmnlaaGreatDoor.Fs
open Go Go.RowKit Go.Vc
set_option linter.unusedVariables false
def F54 (x0 : Int) (Q : Value → World → Prop) (kp : List PanicEntry → World → Prop) (W : World) : Prop :=
  CallK Tryz.prog 103 #[.int .u64 x0] W kp fun u4 W_1 =>
  CallK Tryz.prog 102 #[u4] W_1 kp fun u5 W_2 =>
  AsS u5 fun s5 =>
  Q (.string s5) W_2
theorem F54_eq (x0 : Int) (Q : Value → World → Prop) (kp : List PanicEntry → World → Prop) (W : World) : vcFn Tryz.prog [] Tryz.f54 [.int .u64 x0] W Q kp = F54 x0 Q kp W := by kernel_rfl
theorem F54_ok : okFn Tryz.f54 1 = true := by kernel_rfl
theorem F54_fn {x0 : Int} {Q : Value → World → Prop} {W : World} (h : F54 x0 Q (fun _ _ => False) W) : Gives Tryz.prog 54 #[.int .u64 x0] W Q := fn_of_vc (plan := []) mixed Tryz.func54 F54_ok (by rw [F54_eq]; exact h)
def F73 (s0 : ByteArray) (x1 : Int) (Q : Value → World → Prop) (kp : List PanicEntry → World → Prop) (W : World) : Prop :=
  CallK Tryz.prog 129 #[.string s0] W kp fun u10 W_1 =>
  AsT2 u10 fun u10a u10b =>
  AsI .i64 u10b fun x10b =>
  NewA #[.int .u64 0, .int .u64 0] 120 W_1 fun q6 W_2 =>
  StV 2 W_2 q6 u10a fun W_3 =>
  If ((x10b : Int) != 0) (Q (.tuple #[.int .u64 0, .int .i64 x10b]) W_3) (LdNC W_3 q6 2 fun l18 =>
  Any W_3 fun W_4 =>
  CallK Tryz.prog 103 #[.int .u64 x1] W_4 kp fun u20 W_5 =>
  StN W_5 q6 l18.toArray 2 <|
  CallK Tryz.prog 130 #[.agg l18.toArray, u20] W_5 kp fun u21 W_6 =>
  AsI .i64 u21 fun x21 =>
  If (decide ((x21 : Int) > 0)) (Q (.tuple #[.int .u64 0, .int .i64 11]) W_6) (Ld1 W_6 (q6.add 1) fun u24 =>
  AsI .u64 u24 fun x24 =>
  Q (.tuple #[.int .u64 x24, .int .i64 0]) W_6))
theorem F73_eq (s0 : ByteArray) (x1 : Int) (Q : Value → World → Prop) (kp : List PanicEntry → World → Prop) (W : World) : vcFn Tryz.prog [] Tryz.f73 [.string s0, .int .u64 x1] W Q kp = F73 s0 x1 Q kp W := by kernel_rfl
theorem F73_ok : okFn Tryz.f73 2 = true := by kernel_rfl
theorem F73_fn {s0 : ByteArray} {x1 : Int} {Q : Value → World → Prop} {W : World} (h : F73 s0 x1 Q (fun _ _ => False) W) : Gives Tryz.prog 73 #[.string s0, .int .u64 x1] W Q := fn_of_vc (plan := []) mixed Tryz.func73 F73_ok (by rw [F73_eq]; exact h)
def F102 (g0 : Array Value) (Q : Value → World → Prop) (kp : List PanicEntry → World → Prop) (W : World) : Prop :=
  NewA g0 120 W fun q1 W_1 =>
  Lp (fun s W_2 k =>
  AsL (s.getD 0 undef) fun a3 n3 c3 =>
  LdNC W_2 q1 2 fun l7 =>
  CallK Tryz.prog 161 #[.agg l7.toArray] W_2 kp fun u8 W_3 =>
  AsT2 u8 fun u8a u8b =>
  AsI .u8 u8b fun x8b =>
  NewA #[.int .u64 0, .int .u64 0] 120 W_3 fun q4 W_4 =>
  StV 2 W_4 q4 u8a fun W_5 =>
  NewSC 1 (zeroRow 1 #[.int .u8 0]) [(0, 1, .int .u8 (IntKind.u8.wrap (48 + x8b)))] 5 W_5 fun q14 W_6 =>
  RunW Tryz.prog (Builtin.append_ #[82, 82] 82 #[.slice a3 n3 c3, .slice (some q14) 1 1]) W_6 fun u15 W_7 =>
  AsL u15 fun a15 n15 c15 =>
  LdNC W_7 q4 2 fun l16 =>
  BldC [.int .u64 0, .int .u64 0] [] fun cs17 =>
  RunP Tryz.prog (binRun .eql 120 (.tmp 16) (.tmp 17) (.agg l16.toArray) (.agg cs17)) fun u18 =>
  AsB u18 fun b18 =>
  If b18 (CallK Tryz.prog 162 #[.slice a15 n15 c15] W_7 kp fun u21 W_8 =>
  RunR Tryz.prog (convert 82 9 (.slice a15 n15 c15)) W_8 fun u23 =>
  AsS u23 fun s23 =>
  Q (.string s23) W_8) (LdNC W_7 q4 2 fun l19 =>
  StV 2 W_7 q1 (.agg l19.toArray) fun W_9 =>
  k [.slice a15 n15 c15] W_9)) [.slice none 0 0] W_1
theorem F102_eq (g0 : Array Value) (Q : Value → World → Prop) (kp : List PanicEntry → World → Prop) (W : World) : vcFn Tryz.prog [] Tryz.f102 [.agg g0] W Q kp = F102 g0 Q kp W := by kernel_rfl
theorem F102_ok : okFn Tryz.f102 1 = true := by kernel_rfl
theorem F102_fn {g0 : Array Value} {Q : Value → World → Prop} {W : World} (h : F102 g0 Q (fun _ _ => False) W) : Gives Tryz.prog 102 #[.agg g0] W Q := fn_of_vc (plan := []) mixed Tryz.func102 F102_ok (by rw [F102_eq]; exact h)
def F129 (s0 : ByteArray) (Q : Value → World → Prop) (kp : List PanicEntry → World → Prop) (W : World) : Prop :=
  NewA #[.int .u64 0, .int .u64 0] 120 W fun q2 W_1 =>
  CallK Tryz.prog 177 #[.string s0] W_1 kp fun u10 W_2 =>
  AsB u10 fun b10 =>
  If (!b10) (BldC [.int .u64 0, .int .u64 0] [] fun cs12 =>
  StV 2 W_2 q2 (.agg cs12) fun W_3 =>
  LdNC W_3 q2 2 fun l2 =>
  Q (.tuple #[.agg l2.toArray, .int .i64 3]) W_3) (NewA #[.int .u64 0, .int .u64 0] 120 W_2 fun q4 W_4 =>
  RunW Tryz.prog (convert 9 82 (.string s0)) W_4 fun u14 W_5 =>
  AsL u14 fun a14 n14 c14 =>
  Lp (fun s W_6 k =>
  AsI .i64 (s.getD 0 undef) fun x3 =>
  AsI .i64 (s.getD 1 undef) fun x16 =>
  If (decide ((x16 : Int) < (n14 : Int))) (IdxS a14 n14 x16 1 fun q18 =>
  Ld1 W_6 q18 fun u19 =>
  AsI .u8 u19 fun x19 =>
  LdNC W_6 q4 2 fun l21 =>
  CallK Tryz.prog 178 #[.agg l21.toArray, .int .u8 (IntKind.u8.wrap (x19 - 48))] W_6 kp fun u24 W_7 =>
  AsT2 u24 fun u24a u24b =>
  AsB u24b fun b24b =>
  NewA #[.int .u64 0, .int .u64 0] 120 W_7 fun q7 W_8 =>
  StV 2 W_8 q7 u24a fun W_9 =>
  If b24b (BldC [.int .u64 0, .int .u64 0] [] fun cs28 =>
  StV 2 W_9 q2 (.agg cs28) fun W_10 =>
  LdNC W_10 q2 2 fun l2_1 =>
  Q (.tuple #[.agg l2_1.toArray, .int .i64 11]) W_10) (LdNC W_9 q7 2 fun l29 =>
  StV 2 W_9 q4 (.agg l29.toArray) fun W_11 =>
  k [.int .i64 x3, .int .i64 (IntKind.i64.wrap (x16 + 1))] W_11)) (LdNC W_6 q4 2 fun l31 =>
  StV 2 W_6 q2 (.agg l31.toArray) fun W_12 =>
  LdNC W_12 q2 2 fun l2_2 =>
  Q (.tuple #[.agg l2_2.toArray, .int .i64 0]) W_12)) [.int .i64 0, .int .i64 0] W_5)
theorem F129_eq (s0 : ByteArray) (Q : Value → World → Prop) (kp : List PanicEntry → World → Prop) (W : World) : vcFn Tryz.prog [] Tryz.f129 [.string s0] W Q kp = F129 s0 Q kp W := by kernel_rfl
theorem F129_ok : okFn Tryz.f129 1 = true := by kernel_rfl
theorem F129_fn {s0 : ByteArray} {Q : Value → World → Prop} {W : World} (h : F129 s0 Q (fun _ _ => False) W) : Gives Tryz.prog 129 #[.string s0] W Q := fn_of_vc (plan := []) mixed Tryz.func129 F129_ok (by rw [F129_eq]; exact h)
def F161 (g0 : Array Value) (Q : Value → World → Prop) (kp : List PanicEntry → World → Prop) (W : World) : Prop :=
  NewA g0 120 W fun q1 W_1 =>
  NewA #[.int .u64 0, .int .u64 0] 120 W_1 fun q2 W_2 =>
  NewA #[.int .u64 0, .int .u64 0] 120 W_2 fun q4 W_3 =>
  Lp (fun s W_4 k =>
  AsI .u64 (s.getD 0 undef) fun x5 =>
  AsI .i64 (s.getD 1 undef) fun x7 =>
  If (decide ((x7 : Int) < 128)) (Shl 1 <|
  LdNC W_4 q1 2 fun l12 =>
  CallK Tryz.prog 194 #[.agg l12.toArray, .int .i64 x7] W_4 kp fun u14 W_5 =>
  AsB u14 fun b14 =>
  Join (fun (x5_1 : Int) (W_6 : World) =>
  LdNC W_6 q4 2 fun l17 =>
  CallK Tryz.prog 174 #[.agg l17.toArray, .int .i64 1] W_6 kp fun u18 W_7 =>
  StV 2 W_7 q4 u18 fun W_8 =>
  Join (fun (x5_2 : Int) (W_9 : World) =>
  k [.int .u64 x5_2, .int .i64 (IntKind.i64.wrap (x7 + 1))] W_9) fun (J_1 : Int → World → Prop) =>
  If (decide ((x5_1 : Int) ≥ 10)) (Ld1 W_8 (q4.add 1) fun u24 =>
  AsI .u64 u24 fun x24 =>
  StV 1 W_8 (q4.add 1) (.int .u64 (IntKind.u64.wrap ((((BitVec.ofInt (IntKind.u64).bits x24) ||| (BitVec.ofInt (IntKind.u64).bits 1)).toNat : Int)))) fun W_10 =>
  J_1 (IntKind.u64.wrap (x5_1 - 10)) W_10) (J_1 x5_1 W_8)) fun (J : Int → World → Prop) =>
  If b14 (J (IntKind.u64.wrap ((IntKind.u64.wrap (x5 * 2 ^ (min (Int.toNat 1) (IntKind.u64).bits))) + 1)) W_5) (J (IntKind.u64.wrap (x5 * 2 ^ (min (Int.toNat 1) (IntKind.u64).bits))) W_5)) (LdNC W_4 q4 2 fun l28 =>
  StV 2 W_4 q2 (.agg l28.toArray) fun W_11 =>
  LdNC W_11 q2 2 fun l2 =>
  Q (.tuple #[.agg l2.toArray, .int .u8 (IntKind.u8.wrap x5)]) W_11)) [.int .u64 0, .int .i64 0] W_3
theorem F161_eq (g0 : Array Value) (Q : Value → World → Prop) (kp : List PanicEntry → World → Prop) (W : World) : vcFn Tryz.prog [] Tryz.f161 [.agg g0] W Q kp = F161 g0 Q kp W := by kernel_rfl
theorem F161_ok : okFn Tryz.f161 1 = true := by kernel_rfl
theorem F161_fn {g0 : Array Value} {Q : Value → World → Prop} {W : World} (h : F161 g0 Q (fun _ _ => False) W) : Gives Tryz.prog 161 #[.agg g0] W Q := fn_of_vc (plan := []) mixed Tryz.func161 F161_ok (by rw [F161_eq]; exact h)
def F177 (s0 : ByteArray) (Q : Value → World → Prop) (kp : List PanicEntry → World → Prop) (W : World) : Prop :=
  Lp (fun s W_1 k =>
  AsB (s.getD 0 undef) fun b2 =>
  AsI .i64 (s.getD 1 undef) fun x6 =>
  If (decide ((x6 : Int) < (ByteArray.size s0 : Int))) (IdxStr s0 x6 fun c11 =>
  Join (fun (b18 : Bool) (W_2 : World) =>
  If b18 (Q (.bool false) W_2) (k [.bool b2, .int .i64 (IntKind.i64.wrap (x6 + 1))] W_2)) fun (J : Bool → World → Prop) =>
  If (decide (((c11.toNat : Int) : Int) < 48)) (J true W_1) (IdxStr s0 x6 fun c16 =>
  J (decide (((c16.toNat : Int) : Int) > 57)) W_1)) (Join (fun (b32 : Bool) (W_3 : World) =>
  Q (.bool b32) W_3) fun (J_1 : Bool → World → Prop) =>
  If (((ByteArray.size s0 : Int) : Int) == 1) (J_1 true W_1) (Join (fun (b31 : Bool) (W_4 : World) =>
  J_1 b31 W_4) fun (J_2 : Bool → World → Prop) =>
  If (decide (((ByteArray.size s0 : Int) : Int) > 1)) (IdxStr s0 0 fun c29 =>
  J_2 (((c29.toNat : Int) : Int) != 48) W_1) (J_2 false W_1)))) [.bool false, .int .i64 0] W
theorem F177_eq (s0 : ByteArray) (Q : Value → World → Prop) (kp : List PanicEntry → World → Prop) (W : World) : vcFn Tryz.prog [] Tryz.f177 [.string s0] W Q kp = F177 s0 Q kp W := by kernel_rfl
theorem F177_ok : okFn Tryz.f177 1 = true := by kernel_rfl
theorem F177_fn {s0 : ByteArray} {Q : Value → World → Prop} {W : World} (h : F177 s0 Q (fun _ _ => False) W) : Gives Tryz.prog 177 #[.string s0] W Q := fn_of_vc (plan := []) mixed Tryz.func177 F177_ok (by rw [F177_eq]; exact h)
def F178 (g0 : Array Value) (x1 : Int) (Q : Value → World → Prop) (kp : List PanicEntry → World → Prop) (W : World) : Prop :=
  NewA g0 120 W fun q2 W_1 =>
  NewA #[.int .u64 0, .int .u64 0] 120 W_1 fun q4 W_2 =>
  BldC [.int .u64 0, .int .u64 0] [] fun cs12 =>
  NewA #[.int .u64 0, .int .u64 0] 120 W_2 fun q6 W_3 =>
  StV 2 W_3 q6 (.agg cs12) fun W_4 =>
  Lp (fun s W_5 k =>
  AsB (s.getD 0 undef) fun b7 =>
  AsI .i64 (s.getD 1 undef) fun x13 =>
  If (decide ((x13 : Int) < 10)) (LdNC W_5 q6 2 fun l16 =>
  LdNC W_5 q2 2 fun l17 =>
  CallK Tryz.prog 204 #[.agg l16.toArray, .agg l17.toArray] W_5 kp fun u18 W_6 =>
  AsT2 u18 fun u18a u18b =>
  AsB u18b fun b18b =>
  NewA #[.int .u64 0, .int .u64 0] 120 W_6 fun q8 W_7 =>
  StV 2 W_7 q8 u18a fun W_8 =>
  LdNC W_8 q8 2 fun l21 =>
  Join (fun (b25 : Bool) (W_9 : World) =>
  StV 2 W_9 q6 (.agg l21.toArray) fun W_10 =>
  k [.bool b25, .int .i64 (IntKind.i64.wrap (x13 + 1))] W_10) fun (J : Bool → World → Prop) =>
  If b7 (J true W_8) (J b18b W_8)) (LdNC W_5 q6 2 fun l28 =>
  CallQ Tryz.prog 103 #[.int .u64 (IntKind.u64.wrap x1)] W_5 fun u31 =>
  CallQ Tryz.prog 204 #[.agg l28.toArray, u31] W_5 fun u32 =>
  AsT2 u32 fun u32a u32b =>
  AsB u32b fun b32b =>
  Any W_5 fun W_11 =>
  ∀ lo10 hi10 v10, Fresh W_5.heap.size lo10 hi10 W_11 [] → IsNew #[.int .u64 0, .int .u64 0] 120 lo10 hi10 v10 W_11 → AsA v10 fun q10 =>
  StV 2 W_11 q10 u32a fun W_12 =>
  LdNC W_12 q10 2 fun l35 =>
  Join (fun (b39 : Bool) (W_13 : World) =>
  StV 2 W_13 q4 (.agg l35.toArray) fun W_14 =>
  LdNC W_14 q4 2 fun l4 =>
  Q (.tuple #[.agg l4.toArray, .bool b39]) W_14) fun (J_1 : Bool → World → Prop) =>
  If b7 (J_1 true W_12) (J_1 b32b W_12))) [.bool false, .int .i64 0] W_4
theorem F178_eq (g0 : Array Value) (x1 : Int) (Q : Value → World → Prop) (kp : List PanicEntry → World → Prop) (W : World) : vcFn Tryz.prog [] Tryz.f178 [.agg g0, .int .u8 x1] W Q kp = F178 g0 x1 Q kp W := by kernel_rfl
theorem F178_ok : okFn Tryz.f178 2 = true := by kernel_rfl
theorem F178_fn {g0 : Array Value} {x1 : Int} {Q : Value → World → Prop} {W : World} (h : F178 g0 x1 Q (fun _ _ => False) W) : Gives Tryz.prog 178 #[.agg g0, .int .u8 x1] W Q := fn_of_vc (plan := []) mixed Tryz.func178 F178_ok (by rw [F178_eq]; exact h)
def F162 (a0 : Option Addr) (n0 c0 : Nat) (Q : Value → World → Prop) (kp : List PanicEntry → World → Prop) (W : World) : Prop :=
  Lp (fun s W_1 k =>
  AsI .i64 (s.getD 0 undef) fun x2 =>
  AsI .i64 (s.getD 1 undef) fun x3 =>
  If (decide ((x2 : Int) < x3)) (IdxS a0 n0 x3 1 fun q20 =>
  Ld1 W_1 q20 fun u21 =>
  AsI .u8 u21 fun x21 =>
  Any W_1 fun W_2 =>
  IdxS a0 n0 x2 1 fun q24 =>
  Ld1 W_2 q24 fun u25 =>
  AsI .u8 u25 fun x25 =>
  IdxS a0 n0 x2 1 fun q26 =>
  StV 1 W_2 q26 (.int .u8 x21) fun W_3 =>
  IdxS a0 n0 x3 1 fun q27 =>
  StV 1 W_3 q27 (.int .u8 x25) fun W_4 =>
  k [.int .i64 (IntKind.i64.wrap (x2 + 1)), .int .i64 (IntKind.i64.wrap (x3 - 1))] W_4) (Q (.tuple #[]) W_1)) [.int .i64 0, .int .i64 (IntKind.i64.wrap ((n0 : Int) - 1))] W
theorem F162_eq (a0 : Option Addr) (n0 c0 : Nat) (Q : Value → World → Prop) (kp : List PanicEntry → World → Prop) (W : World) : vcFn Tryz.prog [] Tryz.f162 [.slice a0 n0 c0] W Q kp = F162 a0 n0 c0 Q kp W := by kernel_rfl
theorem F162_ok : okFn Tryz.f162 1 = true := by kernel_rfl
theorem F162_fn {a0 : Option Addr} {n0 c0 : Nat} {Q : Value → World → Prop} {W : World} (h : F162 a0 n0 c0 Q (fun _ _ => False) W) : Gives Tryz.prog 162 #[.slice a0 n0 c0] W Q := fn_of_vc (plan := []) mixed Tryz.func162 F162_ok (by rw [F162_eq]; exact h)
def F64 (s0 : ByteArray) (Q : Value → World → Prop) (kp : List PanicEntry → World → Prop) (W : World) : Prop :=
  Lp (fun s W_1 k =>
  AsB (s.getD 0 undef) fun b2 =>
  AsI .i64 (s.getD 1 undef) fun x3 =>
  If (decide ((x3 : Int) < (ByteArray.size s0 : Int))) (IdxStr s0 x3 fun c12 =>
  Join (fun (b19 : Bool) (W_2 : World) =>
  If b19 (Q (.bool false) W_2) (k [.bool b2, .int .i64 (IntKind.i64.wrap (x3 + 1))] W_2)) fun (J : Bool → World → Prop) =>
  If (decide (((c12.toNat : Int) : Int) < 48)) (J true W_1) (IdxStr s0 x3 fun c17 =>
  J (decide (((c17.toNat : Int) : Int) > 57)) W_1)) (Join (fun (b32 : Bool) (W_3 : World) =>
  Q (.bool b32) W_3) fun (J_1 : Bool → World → Prop) =>
  If (((ByteArray.size s0 : Int) : Int) == 1) (J_1 true W_1) (Join (fun (b31 : Bool) (W_4 : World) =>
  J_1 b31 W_4) fun (J_2 : Bool → World → Prop) =>
  If (decide (((ByteArray.size s0 : Int) : Int) > 1)) (IdxStr s0 0 fun c29 =>
  J_2 (decide (((c29.toNat : Int) : Int) > 48)) W_1) (J_2 false W_1)))) [.bool false, .int .i64 0] W
theorem F64_eq (s0 : ByteArray) (Q : Value → World → Prop) (kp : List PanicEntry → World → Prop) (W : World) : vcFn Tryz.prog [] Tryz.f64 [.string s0] W Q kp = F64 s0 Q kp W := by kernel_rfl
theorem F64_ok : okFn Tryz.f64 1 = true := by kernel_rfl
theorem F64_fn {s0 : ByteArray} {Q : Value → World → Prop} {W : World} (h : F64 s0 Q (fun _ _ => False) W) : Gives Tryz.prog 64 #[.string s0] W Q := fn_of_vc (plan := []) mixed Tryz.func64 F64_ok (by rw [F64_eq]; exact h)
def F101 (g0 : Array Value) (Q : Value → World → Prop) (kp : List PanicEntry → World → Prop) (W : World) : Prop :=
  NewA g0 126 W fun q1 W_1 =>
  LdNC W_1 q1 2 fun l6 =>
  CallK Tryz.prog 159 #[.agg l6.toArray] W_1 kp fun u7 W_2 =>
  NewA #[.int .u64 0, .int .u64 0, .int .u64 0, .int .u64 0, .int .u64 0, .int .u64 0, .int .u64 0, .int .u64 0, .int .u64 0, .int .u64 0, .int .u64 0, .int .u64 0, .int .u64 0, .int .u64 0, .int .u64 0, .int .u64 0, .int .u64 0, .int .u64 0, .int .u64 0, .int .u64 0, .int .u64 0, .int .u64 0, .int .u64 0, .int .u64 0, .int .u64 0, .int .u64 0, .int .u64 0, .int .u64 0, .int .u64 0, .int .u64 0, .int .u64 0, .int .u64 0, .int .u64 0, .int .u64 0, .int .u64 0, .int .u64 0, .int .u64 0, .int .u64 0, .int .u64 0, .int .u64 0, .int .u64 0, .int .u64 0, .int .u64 0, .int .u64 0, .int .u64 0, .int .u64 0, .int .u64 0, .int .u64 0, .int .u64 0, .int .u64 0, .int .u64 0, .int .u64 0, .int .u64 0, .int .u64 0, .int .u64 0, .int .u64 0, .int .u64 0, .int .u64 0, .int .u64 0, .int .u64 0, .int .u64 0, .int .u64 0, .int .u64 0, .int .u64 0, .int .u64 0, .int .u64 0, .int .u64 0, .int .u64 0, .int .u64 0, .int .u64 0, .int .u64 0, .int .u64 0, .int .u64 0, .int .u64 0, .int .u64 0, .int .u64 0, .int .u64 0, .int .u64 0, .int .u64 0, .int .u64 0, .int .u64 0, .int .u64 0, .int .u64 0, .int .u64 0, .int .u64 0, .int .u64 0, .int .u64 0, .int .u64 0, .int .u64 0, .int .u64 0, .int .u64 0, .int .u64 0, .int .u64 0, .int .u64 0, .int .u64 0, .int .u64 0, .int .u64 0, .int .u64 0, .int .u64 0, .int .u64 0, .int .u64 0, .int .u64 0, .int .u64 0, .int .u64 0, .int .u64 0, .int .u64 0, .int .u64 0, .int .u64 0, .int .u64 0, .int .u64 0, .int .u64 0, .int .u64 0, .int .u64 0, .int .u64 0, .int .u64 0, .int .u64 0, .int .u64 0, .int .u64 0, .int .u64 0, .int .u64 0, .int .u64 0, .int .u64 0, .int .u64 0, .int .u64 0, .int .u64 0, .int .u64 0, .int .u64 0, .int .u64 0] 188 W_2 fun q3 W_3 =>
  StV 128 W_3 q3 u7 fun W_4 =>
  Lp (fun s W_5 k =>
  AsS (s.getD 0 undef) fun s4 =>
  AsI .i64 (s.getD 1 undef) fun x5 =>
  If (decide ((x5 : Int) < 128)) (IdxA q3 128 x5 1 fun q14 =>
  Ld1 W_5 q14 fun u15 =>
  AsI .u64 u15 fun x15 =>
  CallK Tryz.prog 160 #[.string s4, .int .u64 x15] W_5 kp fun u16 W_6 =>
  AsS u16 fun s16 =>
  k [.string s16, .int .i64 (IntKind.i64.wrap (x5 + 1))] W_6) (Q (.string s4) W_5)) [.string (⟨#[48]⟩), .int .i64 0] W_4
theorem F101_eq (g0 : Array Value) (Q : Value → World → Prop) (kp : List PanicEntry → World → Prop) (W : World) : vcFn Tryz.prog [] Tryz.f101 [.agg g0] W Q kp = F101 g0 Q kp W := by kernel_rfl
theorem F101_ok : okFn Tryz.f101 1 = true := by kernel_rfl
theorem F101_fn {g0 : Array Value} {Q : Value → World → Prop} {W : World} (h : F101 g0 Q (fun _ _ => False) W) : Gives Tryz.prog 101 #[.agg g0] W Q := fn_of_vc (plan := []) mixed Tryz.func101 F101_ok (by rw [F101_eq]; exact h)
def F116 (s0 : ByteArray) (Q : Value → World → Prop) (kp : List PanicEntry → World → Prop) (W : World) : Prop :=
  NewA #[.int .u64 0, .int .u64 0] 126 W fun q2 W_1 =>
  BldC [.int .u64 0, .int .u64 0] [] fun cs13 =>
  NewA #[.int .u64 0, .int .u64 0] 126 W_1 fun q3 W_2 =>
  StV 2 W_2 q3 (.agg cs13) fun W_3 =>
  Lp (fun s W_4 k =>
  AsI .i64 (s.getD 0 undef) fun x4 =>
  If (decide ((x4 : Int) < (ByteArray.size s0 : Int))) (LdNC W_4 q3 2 fun l21 =>
  LdNC W_4 q3 2 fun l22 =>
  CallK Tryz.prog 168 #[.agg l21.toArray, .agg l22.toArray] W_4 kp fun u23 W_5 =>
  AsT2 u23 fun u23a u23b =>
  AsB u23b fun b23b =>
  NewA #[.int .u64 0, .int .u64 0] 126 W_5 fun q5 W_6 =>
  StV 2 W_6 q5 u23a fun W_7 =>
  LdNC W_7 q5 2 fun l27 =>
  LdNC W_7 q5 2 fun l28 =>
  CallK Tryz.prog 168 #[.agg l27.toArray, .agg l28.toArray] W_7 kp fun u29 W_8 =>
  AsT2 u29 fun u29a u29b =>
  AsB u29b fun b29b =>
  NewA #[.int .u64 0, .int .u64 0] 126 W_8 fun q7 W_9 =>
  StV 2 W_9 q7 u29a fun W_10 =>
  LdNC W_10 q7 2 fun l33 =>
  LdNC W_10 q3 2 fun l34 =>
  CallK Tryz.prog 168 #[.agg l33.toArray, .agg l34.toArray] W_10 kp fun u35 W_11 =>
  AsT2 u35 fun u35a u35b =>
  AsB u35b fun b35b =>
  NewA #[.int .u64 0, .int .u64 0] 126 W_11 fun q9 W_12 =>
  StV 2 W_12 q9 u35a fun W_13 =>
  LdNC W_13 q9 2 fun l39 =>
  LdNC W_13 q9 2 fun l40 =>
  CallK Tryz.prog 168 #[.agg l39.toArray, .agg l40.toArray] W_13 kp fun u41 W_14 =>
  AsT2 u41 fun u41a u41b =>
  AsB u41b fun b41b =>
  NewA #[.int .u64 0, .int .u64 0] 126 W_14 fun q11 W_15 =>
  StV 2 W_15 q11 u41a fun W_16 =>
  Any W_16 fun W_17 =>
  LdNC W_17 q11 2 fun l45 =>
  IdxStr s0 x4 fun c48 =>
  BldC [.int .u64 0, .int .u64 0] [(1, 1, .int .u64 (IntKind.u64.wrap ((IntKind.u64.wrap (c48.toNat : Int)) - 48)))] fun cs51 =>
  CallK Tryz.prog 168 #[.agg l45.toArray, .agg cs51] W_17 kp fun u52 W_18 =>
  AsT2 u52 fun u52a u52b =>
  AsB u52b fun b52b =>
  StV 2 W_18 q3 u52a fun W_19 =>
  k [.int .i64 (IntKind.i64.wrap (x4 + 1))] W_19) (LdNC W_4 q3 2 fun l55 =>
  StV 2 W_4 q2 (.agg l55.toArray) fun W_20 =>
  LdNC W_20 q2 2 fun l2 =>
  Q (.agg l2.toArray) W_20)) [.int .i64 0] W_3
theorem F116_eq (s0 : ByteArray) (Q : Value → World → Prop) (kp : List PanicEntry → World → Prop) (W : World) : vcFn Tryz.prog [(9, [9999, 0, 1, 2, 3, 4, 5, 6, 7, 8, 9, 10, 11])] Tryz.f116 [.string s0] W Q kp = F116 s0 Q kp W := by kernel_rfl
theorem F116_ok : okFn Tryz.f116 1 = true := by kernel_rfl
theorem F116_fn {s0 : ByteArray} {Q : Value → World → Prop} {W : World} (h : F116 s0 Q (fun _ _ => False) W) : Gives Tryz.prog 116 #[.string s0] W Q := fn_of_vc (plan := [(9, [9999, 0, 1, 2, 3, 4, 5, 6, 7, 8, 9, 10, 11])]) mixed Tryz.func116 F116_ok (by rw [F116_eq]; exact h)
def F160 (s0 : ByteArray) (x1 : Int) (Q : Value → World → Prop) (kp : List PanicEntry → World → Prop) (W : World) : Prop :=
  RunW Tryz.prog (convert 9 82 (.string s0)) W fun u10 W_1 =>
  AsL u10 fun a10 n10 c10 =>
  Lp (fun s W_2 k =>
  AsI .u8 (s.getD 0 undef) fun x6 =>
  AsI .i64 (s.getD 1 undef) fun x7 =>
  If (decide ((x7 : Int) ≥ 0)) (IdxS a10 n10 x7 1 fun q22 =>
  Ld1 W_2 q22 fun u23 =>
  AsI .u8 u23 fun x23 =>
  Dv 10 <|
  IdxS a10 n10 x7 1 fun q33 =>
  StV 1 W_2 q33 (.int .u8 (IntKind.u8.wrap (48 + ((IntKind.u8.wrap ((IntKind.u8.wrap (2 * (IntKind.u8.wrap (x23 - 48)))) + x6)).tmod 10)))) fun W_3 =>
  Dv 10 <|
  k [.int .u8 (IntKind.u8.wrap ((IntKind.u8.wrap ((IntKind.u8.wrap (2 * (IntKind.u8.wrap (x23 - 48)))) + x6)).tdiv 10)), .int .i64 (IntKind.i64.wrap (x7 - 1))] W_3) (If (decide ((x6 : Int) > 0)) (RunR Tryz.prog (convert 82 9 (.slice a10 n10 c10)) W_2 fun u39 =>
  AsS u39 fun s39 =>
  Cat (⟨#[49]⟩) s39 <|
  Q (.string ((⟨#[49]⟩) ++ s39)) W_2) (RunR Tryz.prog (convert 82 9 (.slice a10 n10 c10)) W_2 fun u42 =>
  AsS u42 fun s42 =>
  Q (.string s42) W_2))) [.int .u8 (IntKind.u8.wrap x1), .int .i64 (IntKind.i64.wrap ((n10 : Int) - 1))] W_1
theorem F160_eq (s0 : ByteArray) (x1 : Int) (Q : Value → World → Prop) (kp : List PanicEntry → World → Prop) (W : World) : vcFn Tryz.prog [] Tryz.f160 [.string s0, .int .u64 x1] W Q kp = F160 s0 x1 Q kp W := by kernel_rfl
theorem F160_ok : okFn Tryz.f160 2 = true := by kernel_rfl
theorem F160_fn {s0 : ByteArray} {x1 : Int} {Q : Value → World → Prop} {W : World} (h : F160 s0 x1 Q (fun _ _ => False) W) : Gives Tryz.prog 160 #[.string s0, .int .u64 x1] W Q := fn_of_vc (plan := []) mixed Tryz.func160 F160_ok (by rw [F160_eq]; exact h)
end Go.Proofs.YtngecegnlhmnlaaGreatDoor.Fs
namespace Go.Proofs.YtngecegnlhmnlaaGreatDoor.Nu
open Go
abbrev dec (n : Nat) : List UInt8 := Lib.decDigits n
def isD (c : UInt8) : Bool := decide (48 ≤ c.toNat) && decide (c.toNat ≤ 57)
def isNum (l : List UInt8) : Bool := l.all isD && (decide (l.length = 1) || (decide (1 < l.length) && decide (l.head? ≠ some 48)))
def decV (l : List UInt8) : Nat := l.foldl (fun a c => a * 10 + (c.toNat - 48)) 0
theorem decV_snoc (l : List UInt8) (c : UInt8) : decV (l ++ [c]) = decV l * 10 + (c.toNat - 48) := by
  unfold decV; rw [List.foldl_append]; rfl
theorem dig_toNat {d : Nat} (h : d < 10) : (UInt8.ofNat (48 + d)).toNat = 48 + d := by
  rw [UInt8.toNat_ofNat']; omega
theorem isD_dig {d : Nat} (h : d < 10) : isD (UInt8.ofNat (48 + d)) = true := by
  unfold isD; rw [dig_toNat h, decide_eq_true (by omega), decide_eq_true (by omega)]; rfl
theorem dec_small {n : Nat} (h : n < 10) : dec n = [UInt8.ofNat (48 + n)] := by
  unfold dec; rw [Lib.decDigits, dif_pos h]
theorem dec_big {n : Nat} (h : ¬ n < 10) : dec n = dec (n / 10) ++ [UInt8.ofNat (48 + n % 10)] := by
  unfold dec; rw [Lib.decDigits, dif_neg h]
theorem dec_ne (n : Nat) : dec n ≠ [] := by
  by_cases h : n < 10
  · rw [dec_small h]; simp
  · rw [dec_big h]; simp
theorem decV_dec : ∀ n : Nat, decV (dec n) = n := by
  intro n
  induction n using Nat.strongRecOn with
  | _ n ih =>
    by_cases h : n < 10
    · rw [dec_small h]
      show 0 * 10 + ((UInt8.ofNat (48 + n)).toNat - 48) = n
      rw [dig_toNat h]; omega
    · rw [dec_big h, decV_snoc, ih (n / 10) (by omega), dig_toNat (Nat.mod_lt _ (by decide))]; omega
theorem dec_digits : ∀ n : Nat, (dec n).all isD = true := by
  intro n
  induction n using Nat.strongRecOn with
  | _ n ih =>
    by_cases h : n < 10
    · rw [dec_small h, List.all_cons, isD_dig h]; rfl
    · rw [dec_big h, List.all_append, ih (n / 10) (by omega), List.all_cons, isD_dig (Nat.mod_lt n (show 0 < 10 by decide))]; rfl
theorem dec_head : ∀ n : Nat, 0 < n → (dec n).head? ≠ some 48 := by
  intro n
  induction n using Nat.strongRecOn with
  | _ n ih =>
    intro h0
    by_cases h : n < 10
    · rw [dec_small h]
      intro e
      have := congrArg UInt8.toNat (Option.some.inj e)
      rw [dig_toNat h] at this
      have e48 : (48 : UInt8).toNat = 48 := rfl
      rw [e48] at this; omega
    · rw [dec_big h, List.head?_append]
      have := ih (n / 10) (by omega) (by omega)
      cases hd : (dec (n / 10)).head? with
      | none => exact absurd (List.head?_eq_none_iff.1 hd) (dec_ne _)
      | some c => rw [hd] at this; exact this
theorem dec_len {n : Nat} : (dec n).length = 1 ↔ n < 10 := by
  by_cases h : n < 10
  · rw [dec_small h]; simp [h]
  · rw [dec_big h]
    have := List.length_pos_iff.2 (dec_ne (n / 10))
    simp only [List.length_append, List.length_singleton]; omega
theorem dec_isNum (n : Nat) : isNum (dec n) = true := by
  unfold isNum
  rw [dec_digits, Bool.true_and]
  by_cases h : n < 10
  · rw [decide_eq_true (dec_len.2 h)]; rfl
  · have h1 := List.length_pos_iff.2 (dec_ne n)
    have h2 : ¬ (dec n).length = 1 := fun e => h (dec_len.1 e)
    rw [decide_eq_true (show 1 < (dec n).length by omega), decide_eq_true (dec_head n (by omega))]; simp
theorem isD_nat {c : UInt8} (h : isD c = true) : 48 ≤ c.toNat ∧ c.toNat ≤ 57 := by
  unfold isD at h
  rw [Bool.and_eq_true, decide_eq_true_eq, decide_eq_true_eq] at h
  exact h
theorem isD_back {c : UInt8} (h : isD c = true) : UInt8.ofNat (48 + (c.toNat - 48)) = c := by
  have := isD_nat h
  rw [show 48 + (c.toNat - 48) = c.toNat by omega]; exact UInt8.ofNat_toNat
theorem decV_pos : ∀ (l : List UInt8), l.all isD = true → l ≠ [] → l.head? ≠ some 48 → 0 < decV l := by
  intro l
  rcases List.eq_nil_or_concat l with rfl | ⟨r, c, rfl⟩
  · intro _ h; exact absurd rfl h
  · induction hl : r.length using Nat.strongRecOn generalizing r c with
    | _ k ih =>
      intro ha _ hh
      rw [List.concat_eq_append] at ha hh ⊢
      rw [decV_snoc]
      rcases List.eq_nil_or_concat r with rfl | ⟨r', c', rfl⟩
      · have hc : c ≠ 48 := fun e => hh (by rw [e]; rfl)
        have hd := isD_nat (c := c) (by simpa using ha)
        have : c.toNat ≠ 48 := fun e => hc (UInt8.toNat_inj.1 e)
        omega
      · rw [List.all_append, Bool.and_eq_true] at ha
        have := ih r'.length (by rw [← hl]; simp) r' c' rfl ha.1 (by simp) (by
          rw [List.concat_eq_append] at hh ⊢
          rw [List.head?_append] at hh
          cases hd : (r' ++ [c']).head? with
          | none => intro e; cases e
          | some x => rw [hd] at hh; exact hh)
        omega
theorem dec_decV : ∀ (l : List UInt8), isNum l = true → dec (decV l) = l := by
  intro l
  rcases List.eq_nil_or_concat l with rfl | ⟨r, c, rfl⟩
  · intro h; cases h
  · induction hl : r.length using Nat.strongRecOn generalizing r c with
    | _ k ih =>
      intro h
      rw [List.concat_eq_append] at h ⊢
      have hall : (r ++ [c]).all isD = true := by unfold isNum at h; exact (Bool.and_eq_true _ _ ▸ h).1
      rw [List.all_append, Bool.and_eq_true] at hall
      have hc : isD c = true := by simpa using hall.2
      have hcn := isD_nat hc
      rw [decV_snoc]
      by_cases hr : r = []
      · subst hr
        have e : decV [] * 10 + (c.toNat - 48) = c.toNat - 48 := by simp [decV]
        rw [e, dec_small (by omega), isD_back hc]; rfl
      · have hrl := List.length_pos_iff.2 hr
        have hh : r.head? ≠ some 48 := by
          unfold isNum at h
          have h2 := (Bool.and_eq_true _ _ ▸ h).2
          simp only [Bool.or_eq_true, Bool.and_eq_true, decide_eq_true_eq] at h2
          have h3 := (h2.resolve_left (by simp; exact hr)).2
          rw [List.head?_append] at h3
          cases hd : r.head? with
          | none => intro e; cases e
          | some x => rw [hd] at h3; exact h3
        have hp := decV_pos r hall.1 hr hh
        rw [dec_big (by omega)]
        have e1 : (decV r * 10 + (c.toNat - 48)) / 10 = decV r := by omega
        have e2 : (decV r * 10 + (c.toNat - 48)) % 10 = c.toNat - 48 := by omega
        rw [e1, e2, isD_back hc]
        congr 1
        rcases List.eq_nil_or_concat r with rfl | ⟨r', c', rfl⟩
        · exact absurd rfl hr
        · refine ih r'.length (by rw [← hl]; simp) r' c' rfl ?_
          unfold isNum
          rw [hall.1, Bool.true_and]
          by_cases h1 : (r'.concat c').length = 1
          · rw [decide_eq_true h1]; rfl
          · rw [decide_eq_true (show 1 < (r'.concat c').length by omega), decide_eq_true hh]; simp
theorem dec_le : ∀ (k n : Nat), 0 < k → n < 10 ^ k → (dec n).length ≤ k
  | 0, _, h, _ => absurd h (Nat.lt_irrefl 0)
  | k + 1, n, _, h => by
    by_cases h10 : n < 10
    · rw [dec_small h10]; simp
    · rw [dec_big h10, List.length_append, List.length_singleton]
      have hk : 0 < k := by
        rcases Nat.eq_zero_or_pos k with rfl | hk
        · simp at h; omega
        · exact hk
      have := dec_le k (n / 10) hk (by rw [Nat.pow_succ] at h; omega)
      omega
theorem decV_lt : ∀ (l : List UInt8), l.all isD = true → decV l < 10 ^ l.length := by
  intro l
  induction hl : l.length generalizing l with
  | zero => intro _; obtain rfl := List.eq_nil_of_length_eq_zero hl; decide
  | succ k ih =>
    intro ha
    rcases List.eq_nil_or_concat l with rfl | ⟨r, c, rfl⟩
    · cases hl
    · rw [List.concat_eq_append] at ha hl ⊢
      rw [List.all_append, Bool.and_eq_true] at ha
      have hc := isD_nat (c := c) (by simpa using ha.2)
      have hr : r.length = k := by simpa using hl
      have := ih r hr ha.1
      rw [decV_snoc, Nat.pow_succ]; omega
end Go.Proofs.YtngecegnlhmnlaaGreatDoor.Nu
