/- Bytes, Of, Mask, Top of an address; the reference's. -/
import Derived.Test.YtpjophfcbaoiaaaDoorFe
namespace Go.Proofs.YtpjophfcbaoiaaaDoor.Fo
open Go Go.RowKit Go.Vc Go.Proofs.YtpjophfcbaoiaaaDoor.Fs

/-- The four bytes of an address. -/
def oct4 (a : Nat) : List Nat := [a / 16777216 % 256, a / 65536 % 256, a / 256 % 256, a % 256]
def enB (l : List Nat) : List Value := l.map fun n : Nat => Value.int .u8 (n : Int)
theorem w8 (a : Nat) : IntKind.u8.wrap (a : Int) = ((a % 256 : Nat) : Int) := by
  have : IntKind.u8.wrap (a : Int) = (a : Int) % 256 := rfl
  rw [this]; omega
theorem w32 (a : Nat) : IntKind.u32.wrap (a : Int) = ((a % 4294967296 : Nat) : Int) := by
  have : IntKind.u32.wrap (a : Int) = (a : Int) % 4294967296 := rfl
  rw [this]; omega
theorem fd (a k : Nat) (hk : 0 < k) : Int.fdiv (a : Int) (k : Int) = ((a / k : Nat) : Int) := by
  rw [Int.fdiv_eq_ediv_of_nonneg _ (by omega)]; rfl
theorem bytes_gives (a : Nat) (W : World) : Gives Tryd.prog 10 #[.int .u32 (a : Int)] W fun v W' => v = .agg (enB (oct4 a)).toArray ∧ Below W.heap.size W W' := F10_fn (by
  unfold F10
  have hS := Ow.start NoS W
  have e1 : IntKind.u8.wrap (Int.fdiv (a : Int) (2 ^ (min (Int.toNat 24) (IntKind.u32).bits))) = ((a / 16777216 % 256 : Nat) : Int) := by
    have : (2 ^ (min (Int.toNat 24) (IntKind.u32).bits) : Int) = ((16777216 : Nat) : Int) := by decide
    rw [this, fd a _ (by decide), w8]
  have e2 : IntKind.u8.wrap (Int.fdiv (a : Int) (2 ^ (min (Int.toNat 16) (IntKind.u32).bits))) = ((a / 65536 % 256 : Nat) : Int) := by
    have : (2 ^ (min (Int.toNat 16) (IntKind.u32).bits) : Int) = ((65536 : Nat) : Int) := by decide
    rw [this, fd a _ (by decide), w8]
  have e3 : IntKind.u8.wrap (Int.fdiv (a : Int) (2 ^ (min (Int.toNat 8) (IntKind.u32).bits))) = ((a / 256 % 256 : Nat) : Int) := by
    have : (2 ^ (min (Int.toNat 8) (IntKind.u32).bits) : Int) = ((256 : Nat) : Int) := by decide
    rw [this, fd a _ (by decide), w8]
  rw [e1, e2, e3, w8 a]
  refine hS.new fun b2 W1 hS => ⟨by decide, by decide, by decide, BldC.mk (cs := enB (oct4 a)) ⟨rfl, by decide, rfl, by decide, rfl, by decide, rfl, by decide, trivial⟩ rfl (hS.stw 0 rfl (cs := enB (oct4 a)) rfl rfl rfl fun W2 hS => hS.ldw 0 rfl (show (enB (oct4 a)).length = 4 from rfl) ⟨rfl, hS.bel⟩)⟩)
/-- The address of bytes. -/
def ofB (l : List Nat) : Nat := l.foldl (fun a c => a * 256 + c) 0
theorem or_step {x y : Nat} (hx : x < 16777216) (hy : y < 256) :
    IntKind.u32.wrap ((((BitVec.ofInt (IntKind.u32).bits (IntKind.u32.wrap ((x : Int) * 2 ^ (min (Int.toNat 8) (IntKind.u32).bits)))) ||| (BitVec.ofInt (IntKind.u32).bits (IntKind.u32.wrap (y : Int)))).toNat : Int)) = ((x * 256 + y : Nat) : Int) := by
  have e1 : ((x : Int) * 2 ^ (min (Int.toNat 8) (IntKind.u32).bits)) = ((x * 256 : Nat) : Int) := by
    have : (2 ^ (min (Int.toNat 8) (IntKind.u32).bits) : Int) = ((256 : Nat) : Int) := by decide
    rw [this]; omega
  have w1 : IntKind.u32.wrap ((x * 256 : Nat) : Int) = ((x * 256 : Nat) : Int) := by rw [w32, Nat.mod_eq_of_lt (by omega)]
  have w2 : IntKind.u32.wrap (y : Int) = (y : Int) := by rw [w32, Nat.mod_eq_of_lt (by omega)]
  rw [e1, w1, w2]
  have b : (IntKind.u32).bits = 32 := rfl
  rw [b]
  have e2 : ∀ n : Nat, BitVec.ofInt 32 (n : Int) = BitVec.ofNat 32 n := fun n => by
    apply BitVec.eq_of_toNat_eq
    rw [BitVec.toNat_ofInt, BitVec.toNat_ofNat]
    omega
  rw [e2, e2, BitVec.toNat_or, BitVec.toNat_ofNat, BitVec.toNat_ofNat, Nat.mod_eq_of_lt (by omega), Nat.mod_eq_of_lt (by omega), w32]
  have e3 := Nat.shiftLeft_add_eq_or_of_lt (i := 8) (b := y) (by omega) x
  rw [Nat.shiftLeft_eq] at e3
  have e4 : x * 256 ||| y = x * 256 + y := e3.symm
  rw [e4, Nat.mod_eq_of_lt (by omega)]
theorem of_gives (l : List Nat) (hl : l.length = 4) (hb : ∀ n ∈ l, n < 256) (W : World) : Gives Tryd.prog 14 #[.agg (enB l).toArray] W fun v W' => v = .int .u32 (ofB l : Int) ∧ Below W.heap.size W W' := F14_fn (by
  unfold F14
  have hS := Ow.start NoS W
  have hen : (enB l).length = 4 := by unfold enB; rw [List.length_map, hl]
  refine hS.new fun b1 W1 hS => hS.ldw 0 rfl hen ?_
  have bound : ∀ j, j ≤ 4 → ofB (l.take j) < 256 ^ j := fun j hj => by
    induction j with
    | zero => simp [ofB]
    | succ j ih =>
      have hlt : j < l.length := by omega
      have h1 := ih (by omega)
      have e : ofB (l.take (j + 1)) = ofB (l.take j) * 256 + l[j] := by
        rw [List.take_succ_eq_append_getElem hlt]; unfold ofB; rw [List.foldl_append]; rfl
      have h2 := hb l[j] (List.getElem_mem hlt)
      rw [e, Nat.pow_succ]; omega
  refine Lp.of (fun j : Nat => [.int .u32 (ofB (l.take j) : Int), .int .i64 (j : Int)]) (fun j W' => j ≤ 4 ∧ Ow NoS W W' [.cl b1 (enB l) 23]) (fun j => 4 - j) 0 rfl ⟨by omega, hS⟩ ?_
  rintro j W2 k ⟨hj, hS⟩ hk
  refine AsI.mk (AsI.mk (If.dec (fun hlt => ?_) fun hge => ?_))
  · have hlt' : j < 4 := by have : (j : Int) < 4 := hlt; omega
    have hjl : j < l.length := by omega
    have e : ofB (l.take (j + 1)) = ofB (l.take j) * 256 + l[j] := by
      rw [List.take_succ_eq_append_getElem hjl]; unfold ofB; rw [List.foldl_append]; rfl
    have h2 := hb l[j] (List.getElem_mem hjl)
    have hge : (enB l)[j]? = some (.int .u8 (l[j] : Int)) := by unfold enB; rw [List.getElem?_map, List.getElem?_eq_getElem hjl]; rfl
    have hbd : ofB (l.take j) < 16777216 := by
      have := bound j hj
      have h3 : j = 0 ∨ j = 1 ∨ j = 2 ∨ j = 3 := by omega
      rcases h3 with rfl | rfl | rfl | rfl <;> omega
    refine ⟨by omega, by omega, ?_⟩
    rw [Int.toNat_natCast]
    dsimp only
    rw [Nat.mul_one]
    refine ⟨_, by simpa using hge, AsI.mk ⟨by decide, ?_⟩⟩
    rw [or_step hbd h2]
    have es : IntKind.i64.wrap ((j : Int) + 1) = ((j + 1 : Nat) : Int) := by rw [wrap_i64] <;> omega
    rw [es, ← e]
    exact hk (j + 1) W2 ⟨hlt', hS⟩ (by omega)
  · have hge' : ¬ (j : Int) < 4 := hge
    have : l.take j = l := List.take_of_length_le (by omega)
    rw [this]
    exact ⟨rfl, hS.bel⟩)
theorem ofB_oct4 {a : Nat} (h : a < 4294967296) : ofB (oct4 a) = a := by
  unfold ofB oct4
  simp only [List.foldl_cons, List.foldl_nil]
  omega
/-! ### Masks -/
def maskN (m : Nat) : Nat := 4294967296 - 2 ^ (32 - m)
def clamp (n : Int) : Nat := if n < 0 then 0 else if 32 < n then 32 else n.toNat
theorem clamp_spec (n : Int) : (n < 0 → clamp n = 0) ∧ (0 ≤ n → n ≤ 32 → (clamp n : Int) = n) ∧ (32 < n → clamp n = 32) ∧ clamp n ≤ 32 := by
  unfold clamp
  refine ⟨fun h => if_pos h, fun h1 h2 => ?_, fun h => ?_, ?_⟩
  · rw [if_neg (by omega), if_neg (by omega)]; omega
  · rw [if_neg (by omega), if_pos h]
  · split
    · omega
    · split <;> omega
theorem mask_table : ((List.range 33).all fun m => decide (IntKind.u32.wrap (IntKind.u64.wrap (18446744073709551615 * 2 ^ (min (Int.toNat (IntKind.i64.wrap (32 - (m : Int)))) (IntKind.u64).bits))) = (maskN m : Int))) = true := by kernel_rfl
theorem mask_gives (n : Int) (W : World) : Gives Tryd.prog 15 #[.int .i64 n] W fun v W' => v = .int .u32 (maskN (clamp n) : Int) ∧ Below W.heap.size W W' := F15_fn (by
  unfold F15
  have hs := clamp_spec n
  have e : (if (32 : Int) < (if (0 : Int) > n then 0 else n) then 32 else (if (0 : Int) > n then 0 else n)) = (clamp n : Int) := by
    by_cases h0 : (0 : Int) > n
    · rw [if_pos h0, if_neg (by decide)]; omega
    · rw [if_neg h0]
      by_cases h1 : (32 : Int) < n
      · rw [if_pos h1]; omega
      · rw [if_neg h1]; omega
  have hc : clamp n < 33 := by omega
  rw [e]
  have ht := of_decide_eq_true (List.all_eq_true.1 mask_table (clamp n) (List.mem_range.2 hc))
  rw [ht]
  refine ⟨?_, rfl, Below.refl _ _⟩
  rw [wrap_i64 (by omega) (by omega)]; omega)
theorem rmask_table : ((List.range 32).all fun m => decide (IntKind.u32.wrap ((maskN m : Int) + (((2147483648 / 2 ^ m : Nat)) : Int)) = (maskN (m + 1) : Int)) && decide (IntKind.u32.wrap ((((2147483648 / 2 ^ m : Nat)) : Int).tdiv 2) = ((2147483648 / 2 ^ (m + 1) : Nat) : Int))) = true := by kernel_rfl
theorem rmask_gives (n : Int) (W : World) : Gives Tryd.prog 16 #[.int .i64 n] W fun v W' => v = .int .u32 (maskN (clamp n) : Int) ∧ Below W.heap.size W W' := F16_fn (by
  unfold F16
  have hS := Ow.start NoS W
  refine Lp.of (fun j : Nat => [.int .u32 (maskN j : Int), .int .u32 ((2147483648 / 2 ^ j : Nat) : Int), .int .i64 (j : Int)]) (fun j W' => j ≤ 32 ∧ j ≤ clamp n ∧ Ow NoS W W' []) (fun j => 32 - j) 0 rfl ⟨by omega, by omega, hS⟩ ?_
  rintro j W1 k ⟨hj, hjc, hS⟩ hk
  refine AsI.mk (AsI.mk (AsI.mk (Join.use fun J hJ => ?_)))
  have fin : ¬ ((j : Int) < n ∧ (j : Int) < 32) → J false W1 := fun h => by
    rw [hJ]; dsimp only
    refine If.neg rfl ⟨?_, hS.bel⟩
    have hs := clamp_spec n
    have : j = clamp n := by omega
    rw [this]
  refine If.dec (fun h1 => ?_) fun h1 => fin fun h => h1 h.1
  by_cases h2 : (j : Int) < 32
  · rw [decide_eq_true h2, hJ]; dsimp only
    have ht := List.all_eq_true.1 rmask_table j (List.mem_range.2 (by omega))
    rw [Bool.and_eq_true] at ht
    have t1 := of_decide_eq_true ht.1
    have t2 := of_decide_eq_true ht.2
    refine If.pos rfl ⟨by decide, ?_⟩
    rw [t1, t2]
    have es : IntKind.i64.wrap ((j : Int) + 1) = ((j + 1 : Nat) : Int) := by rw [wrap_i64] <;> omega
    rw [es]
    refine hk (j + 1) W1 ⟨by omega, ?_, hS⟩ (by omega)
    have hs := clamp_spec n
    omega
  · rw [decide_eq_false h2]; exact fin fun h => h2 h.2)
end Go.Proofs.YtpjophfcbaoiaaaDoor.Fo
