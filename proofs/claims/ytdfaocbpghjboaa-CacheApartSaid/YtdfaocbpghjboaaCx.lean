/- Sorting items: lengths in bits; broken patterns. -/
import Derived.Test.YtdfaocbpghjboaaLa
import Derived.Test.YtdfaocbpghjboaaCo
namespace Go.Proofs.Ytdfaocbpghjboaa.Cx
open Go Go.RowKit Go.Vc Go.Proofs.Ytdfaocbpghjboaa.Fs
def lenTab : ByteArray := ⟨#[0, 1, 2, 2, 3, 3, 3, 3, 4, 4, 4, 4, 4, 4, 4, 4, 5, 5, 5, 5, 5, 5, 5, 5, 5, 5, 5, 5, 5, 5, 5, 5, 6, 6, 6, 6, 6, 6, 6, 6, 6, 6, 6, 6, 6, 6, 6, 6, 6, 6, 6, 6, 6, 6, 6, 6, 6, 6, 6, 6, 6, 6, 6, 6, 7, 7, 7, 7, 7, 7, 7, 7, 7, 7, 7, 7, 7, 7, 7, 7, 7, 7, 7, 7, 7, 7, 7, 7, 7, 7, 7, 7, 7, 7, 7, 7, 7, 7, 7, 7, 7, 7, 7, 7, 7, 7, 7, 7, 7, 7, 7, 7, 7, 7, 7, 7, 7, 7, 7, 7, 7, 7, 7, 7, 7, 7, 7, 7, 8, 8, 8, 8, 8, 8, 8, 8, 8, 8, 8, 8, 8, 8, 8, 8, 8, 8, 8, 8, 8, 8, 8, 8, 8, 8, 8, 8, 8, 8, 8, 8, 8, 8, 8, 8, 8, 8, 8, 8, 8, 8, 8, 8, 8, 8, 8, 8, 8, 8, 8, 8, 8, 8, 8, 8, 8, 8, 8, 8, 8, 8, 8, 8, 8, 8, 8, 8, 8, 8, 8, 8, 8, 8, 8, 8, 8, 8, 8, 8, 8, 8, 8, 8, 8, 8, 8, 8, 8, 8, 8, 8, 8, 8, 8, 8, 8, 8, 8, 8, 8, 8, 8, 8, 8, 8, 8, 8, 8, 8, 8, 8, 8, 8, 8, 8, 8, 8, 8, 8, 8, 8, 8, 8, 8, 8, 8, 8]⟩
def tabOk (k : Nat) : Bool := match lenTab.data[k]? with | some c => Nat.blt k (2 ^ c.toNat) && (Nat.beq k 0 || Nat.ble (2 ^ c.toNat) (2 * k)) && Nat.ble c.toNat 8 | none => false
theorem tab_all : (List.range 256).all tabOk = true := by kernel_rfl
theorem tab_get {k : Nat} (hk : k < 256) : ∃ c : UInt8, lenTab[k]? = some c ∧ k < 2 ^ c.toNat ∧ (0 < k → 2 ^ c.toNat ≤ 2 * k) ∧ c.toNat ≤ 8 := by
  have h := List.all_eq_true.1 tab_all k (List.mem_range.2 hk)
  unfold tabOk at h
  split at h
  · rename_i c hc
    simp only [Bool.and_eq_true, Bool.or_eq_true, Nat.blt_eq, Nat.ble_eq] at h
    exact ⟨c, hc, h.1.1, fun h0 => h.1.2.resolve_left (fun e => by have := Nat.eq_of_beq_eq_true e; omega), h.2⟩
  · cases h
theorem shr_nat (x k : Nat) : Int.fdiv (x : Int) (2 ^ k) = ((x / 2 ^ k : Nat) : Int) := by
  have : ((2 : Int) ^ k) = ((2 ^ k : Nat) : Int) := by push_cast; rfl
  rw [this]; exact (Int.ofNat_fdiv x (2 ^ k)).symm
theorem wrap_u8 {x : Int} (h1 : 0 ≤ x) (h2 : x < 256) : IntKind.u8.wrap x = x := by
  have e : IntKind.u8.wrap x = x % 256 := by simp [IntKind.wrap, IntKind.signed, IntKind.bits]
  rw [e]; omega
theorem len64_gives (x : Nat) (hx : x < 18446744073709551616) (W : World) : Gives Try.prog 60 #[.int .u64 (x : Int)] W fun v W' => W' = W ∧ ∃ n : Nat, v = .int .i64 (n : Int) ∧ x < 2 ^ n ∧ (0 < x → 2 ^ n ≤ 2 * x) ∧ n ≤ 64 := F60_fn (by
  unfold F60
  -- what is known between the steps: n bits are off, y is left
  refine Join.use fun J hJ => ?_
  have last : ∀ (y n : Nat), y < 256 → n ≤ 56 → x / 2 ^ n = y → (0 < n → 0 < y) → ∃ c : UInt8, lenTab[y]? = some c ∧ x < 2 ^ (n + c.toNat) ∧ (0 < x → 2 ^ (n + c.toNat) ≤ 2 * x) ∧ n + c.toNat ≤ 64 := by
    intro y n hy hn hxy hn0
    obtain ⟨c, h1, h2, h3, h4⟩ := tab_get hy
    refine ⟨c, h1, ?_, fun h0 => ?_, by omega⟩
    · rw [Nat.pow_add]
      have : x / 2 ^ n < 2 ^ c.toNat := by rw [hxy]; exact h2
      rw [Nat.mul_comm]
      exact (Nat.div_lt_iff_lt_mul (Nat.pow_pos (by decide))).1 this
    · have hy0 : 0 < y := by
        rcases Nat.eq_zero_or_pos n with e | e
        · subst e; simp at hxy; omega
        · exact hn0 e
      rw [Nat.pow_add]
      have h5 := h3 hy0
      have h6 : 2 ^ n * (x / 2 ^ n) ≤ x := Nat.mul_div_le x (2 ^ n)
      rw [hxy] at h6
      calc 2 ^ n * 2 ^ c.toNat ≤ 2 ^ n * (2 * y) := Nat.mul_le_mul_left _ h5
        _ = 2 * (2 ^ n * y) := by rw [Nat.mul_left_comm]
        _ ≤ 2 * x := by omega
  have div2 : ∀ (y n k : Nat), x / 2 ^ n = y → x / 2 ^ (n + k) = y / 2 ^ k := fun y n k h => by rw [Nat.pow_add, ← Nat.div_div_eq_div_mul, h]
  have stepJ : ∀ (y n : Nat), y < 4294967296 → n ≤ 32 → x / 2 ^ n = y → (0 < n → 0 < y) → J (y : Int) (n : Int) W := by
    intro y n hy hn hxy hn0
    rw [hJ]
    refine Join.use fun J1 hJ1 => ?_
    have stepJ1 : ∀ (y n : Nat), y < 65536 → n ≤ 48 → x / 2 ^ n = y → (0 < n → 0 < y) → J1 (y : Int) (n : Int) W := by
      intro y n hy hn hxy hn0
      rw [hJ1]
      refine Join.use fun J2 hJ2 => ?_
      have stepJ2 : ∀ (y n : Nat), y < 256 → n ≤ 56 → x / 2 ^ n = y → (0 < n → 0 < y) → J2 (y : Int) (n : Int) W := by
        intro y n hy hn hxy hn0
        rw [hJ2]
        obtain ⟨c, h1, h2, h3, h4⟩ := last y n hy hn hxy hn0
        rw [wrap_u8 (by omega) (by omega)]
        refine ⟨c, by omega, by rw [Int.toNat_natCast]; exact h1, rfl, n + c.toNat, ?_, h2, h3, h4⟩
        have : c.toNat < 256 := c.toNat_lt
        rw [wrap_i64 (x := (c.toNat : Int)) (by omega) (by omega), wrap_i64 (by omega) (by omega)]
        rfl
      refine If.dec (fun hge => ?_) fun hlt => stepJ2 y n (by omega) (by omega) hxy hn0
      refine ⟨by decide, ?_⟩
      have e : Int.fdiv (y : Int) (2 ^ (min (Int.toNat 8) (IntKind.u64).bits)) = ((y / 2 ^ 8 : Nat) : Int) := shr_nat y 8
      rw [e, wrap_i64 (x := (n : Int) + 8) (by omega) (by omega)]
      exact stepJ2 (y / 2 ^ 8) (n + 8) (by omega) (by omega) (div2 y n 8 hxy) (fun _ => by omega)
    refine If.dec (fun hge => ?_) fun hlt => stepJ1 y n (by omega) (by omega) hxy hn0
    refine ⟨by decide, ?_⟩
    have e : Int.fdiv (y : Int) (2 ^ (min (Int.toNat 16) (IntKind.u64).bits)) = ((y / 2 ^ 16 : Nat) : Int) := shr_nat y 16
    rw [e, wrap_i64 (x := (n : Int) + 16) (by omega) (by omega)]
    exact stepJ1 (y / 2 ^ 16) (n + 16) (by omega) (by omega) (div2 y n 16 hxy) (fun _ => by omega)
  refine If.dec (fun hge => ?_) fun hlt => stepJ x 0 (by omega) (by omega) (by simp) (fun h => by omega)
  refine ⟨by decide, ?_⟩
  have e : Int.fdiv (x : Int) (2 ^ (min (Int.toNat 32) (IntKind.u64).bits)) = ((x / 2 ^ 32 : Nat) : Int) := shr_nat x 32
  rw [e]
  exact stepJ (x / 2 ^ 32) 32 (by omega) (by omega) rfl (fun _ => by omega))
theorem len_gives (x : Nat) (hx : x < 18446744073709551616) (W : World) : Gives Try.prog 48 #[.int .u64 (x : Int)] W fun v W' => W' = W ∧ ∃ n : Nat, v = .int .i64 (n : Int) ∧ x < 2 ^ n ∧ (0 < x → 2 ^ n ≤ 2 * x) ∧ n ≤ 64 := F48_fn (by
  unfold F48
  refine CallK.mk (len64_gives x hx W) ?_
  rintro _ _ ⟨rfl, n, rfl, h⟩
  exact AsI.mk ⟨rfl, n, rfl, h⟩)
theorem pow2_gives (x : Nat) (h0 : 0 < x) (hx : x < 1099511627776) (W : World) : Gives Try.prog 62 #[.int .i64 (x : Int)] W fun v W' => W' = W ∧ ∃ m : Nat, v = .int .u64 (m : Int) ∧ 0 < m ∧ m ≤ 2 * x := F62_fn (by
  unfold F62
  rw [wrap_u64 (by omega) (by omega)]
  refine CallK.mk (len_gives x (by omega) W) ?_
  rintro _ _ ⟨rfl, n, rfl, h1, h2, h3⟩
  refine AsI.mk ⟨by omega, rfl, 2 ^ n, ?_, Nat.pow_pos (by decide), h2 h0⟩
  have h4 := h2 h0
  have e : (1 : Int) * 2 ^ (min (Int.toNat (n : Int)) (IntKind.u64).bits) = ((2 ^ n : Nat) : Int) := by
    rw [Int.toNat_natCast, Nat.min_eq_left (show n ≤ IntKind.u64.bits from h3), Int.one_mul]
    push_cast; rfl
  rw [e, wrap_u64 (by omega) (by omega)])
theorem wrap_u64_rng (x : Int) : 0 ≤ IntKind.u64.wrap x ∧ IntKind.u64.wrap x < 18446744073709551616 := by
  have e : IntKind.u64.wrap x = x % 18446744073709551616 := by simp [IntKind.wrap, IntKind.signed, IntKind.bits]
  rw [e]; omega
theorem next_gives {s : Nat} {t : TypeId} {x0 : Int} {W : World} (hs : W.heap[s]? = some (.cells #[.int .u64 x0] t (0, 0))) :
    Gives Try.prog 63 #[.pointer (some ⟨s, 0, none⟩)] W fun v W' => ∃ x : Int, v = .int .u64 x ∧ W'.heap[s]? = some (.cells #[.int .u64 x] t (0, 0)) ∧ Fr (fun b => b = s) W W' := F63_fn (by
  unfold F63
  refine Ld1.mk hs rfl (AsI.mk ?_)
  intro W1 hb1
  have h1 := belowAt hb1 hs
  refine Ld1.mk h1 rfl (AsI.mk ⟨by decide, ?_⟩)
  refine StV.to1 h1 rfl (show 0 < 1 by decide) rfl fun W2 h2 _ f2 => ?_
  refine Ld1.mk h2 rfl (AsI.mk ?_)
  intro W3 hb3
  have h3 := belowAt hb3 h2
  refine Ld1.mk h3 rfl (AsI.mk ⟨by decide, ?_⟩)
  refine StV.to1 h3 rfl (show 0 < 1 by decide) rfl fun W4 h4 _ f4 => ?_
  refine Ld1.mk h4 rfl (AsI.mk ?_)
  intro W5 hb5
  have h5 := belowAt hb5 h4
  refine Ld1.mk h5 rfl (AsI.mk ⟨by decide, ?_⟩)
  refine StV.to1 h5 rfl (show 0 < 1 by decide) rfl fun W6 h6 _ f6 => ?_
  refine Ld1.mk h6 rfl (AsI.mk ?_)
  exact ⟨_, rfl, h6, ((((frOf hb1).trans f2).trans (frOf hb3)).trans f4).trans ((frOf hb5).trans f6)⟩)
end Go.Proofs.Ytdfaocbpghjboaa.Cx
