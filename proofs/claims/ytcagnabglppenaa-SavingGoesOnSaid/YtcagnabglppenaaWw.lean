/- Sums of 128 bits, bit by bit, as the reference makes them. -/
import Derived.Test.YtcagnabglppenaaSv
import Derived.Test.YtcagnabglppenaaPvn
namespace Go.Proofs.Ytcagnabglppenaa.Wd
open Go Go.RowKit Go.Vc Go.Proofs.Ytcagnabglppenaa.Fs Go.Proofs.Ytcagnabglppenaa.Sv

/-! ### Plain -/
/-- What bits come to, the greatest first. -/
def num (f : Nat → Int) : Nat → Int
  | 0 => 0
  | n + 1 => 2 * num f n + f n
/-- The last k of n bits. -/
def low (n : Nat) (f : Nat → Int) : Nat → Int
  | 0 => 0
  | k + 1 => f (n - 1 - k) * 2 ^ k + low n f k
theorem num_low (n : Nat) (f : Nat → Int) : ∀ k, k ≤ n → num f (n - k) * 2 ^ k + low n f k = num f n
  | 0, _ => by simp [low]
  | k + 1, h => by
    have ih := num_low n f k (by omega)
    have e : n - k = (n - (k + 1)) + 1 := by omega
    rw [e] at ih
    simp only [num] at ih
    simp only [low]
    rw [show n - 1 - k = n - (k + 1) by omega]
    rw [← ih, Int.pow_succ, Int.add_mul, Int.mul_assoc, Int.mul_comm 2, Int.mul_assoc]
    generalize num f (n - (k + 1)) * (2 ^ k * 2) = A
    generalize f (n - (k + 1)) * 2 ^ k = B
    omega
theorem low_all (n : Nat) (f : Nat → Int) : low n f n = num f n := by
  have := num_low n f n (Nat.le_refl n)
  rw [Nat.sub_self] at this
  simpa [num] using this
theorem num_split (f : Nat → Int) (m : Nat) : ∀ n, num f (m + n) = num f m * 2 ^ n + num (fun j => f (m + j)) n
  | 0 => by simp [num]
  | n + 1 => by
    have ih := num_split f m n
    show 2 * num f (m + n) + f (m + n) = _
    simp only [num]
    rw [ih, Int.pow_succ, Int.mul_add, ← Int.mul_assoc (num f m), Int.mul_comm 2 (num f m * 2 ^ n)]
    omega
theorem num_congr {f g : Nat → Int} : ∀ n, (∀ j, j < n → f j = g j) → num f n = num g n
  | 0, _ => rfl
  | n + 1, h => by simp only [num]; rw [num_congr n fun j hj => h j (by omega), h n (by omega)]
theorem low_congr {f g : Nat → Int} {n : Nat} : ∀ k, k ≤ n → (∀ j, j < n → f j = g j) → low n f k = low n g k
  | 0, _, _ => rfl
  | k + 1, hk, h => by simp only [low]; rw [low_congr k (by omega) h, h (n - 1 - k) (by omega)]
theorem num_bits {f : Nat → Int} (h : ∀ j, f j = 0 ∨ f j = 1) : ∀ n, 0 ≤ num f n ∧ num f n < 2 ^ n
  | 0 => by simp [num]
  | n + 1 => by
    have ih := num_bits h n
    have := h n
    simp only [num]
    rw [Int.pow_succ]
    omega
/-- The bits of a number below 2^n. -/
def bit (x : Int) (k : Nat) : Int := x / 2 ^ k % 2
theorem bit_01 (x : Int) (k : Nat) : bit x k = 0 ∨ bit x k = 1 := by unfold bit; omega
theorem low_bit (n : Nat) (x : Int) : ∀ k, k ≤ n → low n (fun j => bit x (n - 1 - j)) k + x / 2 ^ k * 2 ^ k = x
  | 0, _ => by simp [low]
  | k + 1, h => by
    have ih := low_bit n x k (by omega)
    simp only [low]
    rw [show n - 1 - (n - 1 - k) = k by omega]
    have e : x / 2 ^ (k + 1) = x / 2 ^ k / 2 := by rw [Int.pow_succ, Int.ediv_ediv_of_nonneg (Int.pow_nonneg (by decide))]
    rw [e, show bit x k = x / 2 ^ k % 2 from rfl]
    have e2 : x / 2 ^ k % 2 * 2 ^ k + x / 2 ^ k / 2 * 2 ^ (k + 1) = x / 2 ^ k * 2 ^ k := by
      rw [Int.pow_succ, Int.mul_comm (2 ^ k) 2, ← Int.mul_assoc, ← Int.add_mul]
      congr 1
      omega
    omega
theorem num_bit {n : Nat} {x : Int} (h0 : 0 ≤ x) (h : x < 2 ^ n) : num (fun j => bit x (n - 1 - j)) n = x := by
  have := low_bit n x n (Nat.le_refl n)
  rw [Int.ediv_eq_zero_of_lt h0 h, Int.zero_mul, low_all] at this
  omega
end Go.Proofs.Ytcagnabglppenaa.Wd
