/- Hexadecimal by strconv.FormatUint, walked at base 16. -/
import Derived.Test.YtpjophfcbaoiaaaDoorGh
import Derived.Laws.IdiomStrings
namespace Go.Proofs.YtpjophfcbaoiaaaDoor.Si
open Go Go.RowKit Go.Vc Go.Proofs.YtpjophfcbaoiaaaDoor Go.Proofs.YtpjophfcbaoiaaaDoor.Fs Go.Proofs.YtpjophfcbaoiaaaDoor.Fo

/-- Bytes in a row. -/
def enU8 (l : List UInt8) : List Value := l.map fun c : UInt8 => Value.int .u8 (c.toNat : Int)
theorem enU8_len (l : List UInt8) : (enU8 l).length = l.length := List.length_map _
theorem back_of_row {W : World} {src dst e : TypeId} {p : Addr} {cap n : Nat} {l : List UInt8} {k : Value → Prop} (hs : Tryd.prog.underlying src = some (.slice e)) (he : Tryd.prog.underlying e = some (.int .u8)) (hd : Tryd.prog.underlying dst = some .string)
    (hr : Row W p (enU8 l)) (hn : n = l.length) (hk : k (.string (bs l))) : RunR Tryd.prog (convert src dst (.slice (some p) n cap)) W k := by
  subst hn
  refine ⟨_, fun w' hb => run_convert_bytes_back w' src dst e p cap l hs he hd fun j hj => ?_, hk⟩
  have := hr j (.int .u8 (l[j].toNat : Int)) (by unfold enU8; rw [List.getElem?_map, List.getElem?_eq_getElem hj]; rfl)
  exact cell_bel this hb
/-- The digits, from the last. -/
def runH : Nat → Nat → List UInt8 → List UInt8
  | 0, _, acc => acc
  | f + 1, u, acc => if 16 ≤ u then runH f (u / 16) (d16 (u % 16) :: acc) else d16 u :: acc
theorem runH_hx {n : Nat} (h : n < 65536) : runH 4 n [] = hx n := by
  unfold hx
  by_cases h1 : n < 16
  · rw [if_pos h1, runH, if_neg (by omega)]
  · rw [if_neg h1, runH, if_pos (by omega)]
    by_cases h2 : n < 256
    · rw [if_pos h2, runH, if_neg (by omega)]
    · rw [if_neg h2, runH, if_pos (by omega)]
      by_cases h3 : n < 4096
      · rw [if_pos h3, runH, if_neg (by omega), Nat.div_div_eq_div_mul]
      · rw [if_neg h3, runH, if_pos (by omega), runH, if_neg (by omega)]
        simp only [Nat.div_div_eq_div_mul]
abbrev digs36 : ByteArray := ⟨#[48, 49, 50, 51, 52, 53, 54, 55, 56, 57, 97, 98, 99, 100, 101, 102, 103, 104, 105, 106, 107, 108, 109, 110, 111, 112, 113, 114, 115, 116, 117, 118, 119, 120, 121, 122]⟩
theorem digs_table : ((List.range 16).all fun d => decide (digs36[d]? = some (d16 d))) = true := by kernel_rfl
theorem digs_at {d : Nat} (h : d < 16) : digs36[d]? = some (d16 d) := of_decide_eq_true (List.all_eq_true.1 digs_table d (List.mem_range.2 h))
theorem and15 (u : Nat) (h : u < 18446744073709551616) : IntKind.u64.wrap ((((BitVec.ofInt (IntKind.u64).bits (u : Int)) &&& (BitVec.ofInt (IntKind.u64).bits (IntKind.u64.wrap (16 - 1)))).toNat : Int)) = ((u % 16 : Nat) : Int) := by
  have e0 : IntKind.u64.wrap (16 - 1) = ((15 : Nat) : Int) := by kernel_rfl
  have b : (IntKind.u64).bits = 64 := rfl
  rw [e0, b, BitVec.toNat_and, BitVec.toNat_ofInt, BitVec.toNat_ofInt]
  have e1 : ((u : Int) % ((2 ^ 64 : Nat) : Int)).toNat = u := by omega
  have e2 : (((15 : Nat) : Int) % ((2 ^ 64 : Nat) : Int)).toNat = 15 := by decide
  rw [e1, e2]
  have e3 : u &&& 15 = u % 16 := Nat.and_two_pow_sub_one_eq_mod u 4
  rw [e3, w64]; omega
theorem fb_gives {W : World} (h : V6 W) {n : Nat} (hn : n < 65536) : Gives Tryd.prog 74 #[.slice none 0 0, .int .u64 (n : Int), .int .i64 16, .bool false, .bool false] W fun v W' => v = .tuple #[.slice none 0 0, .string (bs (hx n))] ∧ Below W.heap.size W W' := F74_fn (by
  unfold F74
  have hS := Ow.start NoS W
  refine Join.use fun J hJ => If.neg rfl ?_
  rw [hJ]; dsimp only
  refine Join.use fun J1 hJ1 => If.neg rfl ?_
  rw [hJ1]; dsimp only
  refine Join.use fun J2 hJ2 => If.neg rfl ?_
  rw [hJ2]; dsimp only
  refine hS.new fun q W1 hS => ?_
  refine Join.use fun J3 hJ3 => If.neg rfl ?_
  rw [hJ3]; dsimp only
  refine hS.callv (show Gives _ _ _ W1 _ from Calls.mono (pow2_gives W1) fun e w' ⟨v, he, hv, hw⟩ => ⟨v, he, hv, hw ▸ Below.refl _ _⟩) fun W2 hS => AsB.mk (Join.use fun J4 hJ4 => If.pos rfl ?_)
  refine hS.callv (tz_gives (h.bel hS.bel)) fun W3 hS => AsI.mk ?_
  refine Lp.of (fun s : List UInt8 × Nat => [.int .i64 ((65 - s.1.length : Nat) : Int), .int .u64 (s.2 : Int)]) (fun s W' => s.1.length ≤ 3 ∧ s.2 < 16 ^ (4 - s.1.length) ∧ runH (4 - s.1.length) s.2 s.1 = hx n ∧ Ow NoS W W' [.cl q (enU8 (List.replicate (65 - s.1.length) 0 ++ s.1)) 120]) (fun s => 4 - s.1.length) ([], n) rfl ⟨Nat.zero_le _, hn, runH_hx hn, by exact hS⟩ ?_
  rintro ⟨acc, u⟩ W4 k ⟨hl, hu, hr, hS⟩ hk
  dsimp only at hl hu hr hS hk ⊢
  have hu64 : u < 65536 := Nat.lt_of_lt_of_le hu (by
    have : 16 ^ (4 - acc.length) ≤ 16 ^ 4 := Nat.pow_le_pow_right (by decide) (by omega)
    exact this)
  obtain ⟨f, hf⟩ : ∃ f, 4 - acc.length = f + 1 := ⟨3 - acc.length, by omega⟩
  rw [hf, runH] at hr
  have e16 : IntKind.u64.wrap 16 = 16 := by kernel_rfl
  have hi : IntKind.i64.wrap (((65 - acc.length : Nat) : Int) - 1) = ((64 - acc.length : Nat) : Int) := by rw [wrap_i64 (by omega) (by omega)]; omega
  have set' : ∀ c : UInt8, (enU8 (List.replicate (65 - acc.length) 0 ++ acc)).set (64 - acc.length) (.int .u8 (c.toNat : Int)) = enU8 (List.replicate (65 - (c :: acc).length) 0 ++ c :: acc) := fun c => by
    have e1 : 65 - acc.length = (64 - acc.length) + 1 := by omega
    have e2 : 65 - (c :: acc).length = 64 - acc.length := by rw [List.length_cons]; omega
    rw [e1, e2, List.replicate_succ', List.append_assoc]
    unfold enU8
    rw [List.map_append, List.map_append, List.set_append_right _ _ (by simp)]
    simp
  refine AsI.mk (AsI.mk ?_)
  rw [e16]
  refine If.dec (fun hge => ?_) fun hlt => ?_
  · have hge' : 16 ≤ u := by omega
    rw [if_pos hge'] at hr
    rw [and15 u (by omega), hi]
    refine ⟨d16 (u % 16), by omega, by rw [Int.toNat_natCast]; exact digs_at (by omega), IdxA.to rfl (by omega) ?_⟩
    rw [Nat.mul_one]
    refine hS.st1 0 rfl _ (set' _) rfl rfl (by rw [enU8_len]; simp; omega) fun W5 hS => ⟨by decide, ?_⟩
    have e4 : (2 ^ (min (Int.toNat (IntKind.u64.wrap 4)) (IntKind.u64).bits) : Int) = ((16 : Nat) : Int) := by kernel_rfl
    rw [e4, fd _ _ (by decide)]
    have hpow : u / 16 < 16 ^ f := by rw [hf, Nat.pow_succ] at hu; omega
    have hne : f ≠ 0 := by rintro rfl; simp at hpow; omega
    have hl1 : (d16 (u % 16) :: acc).length = acc.length + 1 := rfl
    have hf1 : 4 - (d16 (u % 16) :: acc).length = f := by rw [hl1]; omega
    refine Eq.mp ?_ (hk (d16 (u % 16) :: acc, u / 16) W5 ⟨by dsimp only; rw [hl1]; omega, by dsimp only; rw [hf1]; exact hpow, by dsimp only; rw [hf1]; exact hr, hS⟩ (by dsimp only; omega))
    rw [hl1, show 65 - (acc.length + 1) = 64 - acc.length by omega]
  · have hlt' : ¬ 16 ≤ u := by omega
    rw [if_neg hlt'] at hr
    rw [hi]
    refine ⟨d16 u, by omega, by rw [Int.toNat_natCast]; exact digs_at (by omega), IdxA.to rfl (by omega) ?_⟩
    rw [Nat.mul_one]
    refine hS.st1 0 rfl _ (set' _) rfl rfl (by rw [enU8_len]; simp; omega) fun W5 hS => ?_
    rw [hJ4]; dsimp only
    refine Join.use fun J5 hJ5 => If.neg rfl ?_
    rw [hJ5]; dsimp only
    refine If.neg rfl (SlB.mk (64 - acc.length) 65 rfl rfl (by omega) (by omega) ?_)
    rw [if_neg (by omega)]
    have hrow : Row W5 (Addr.add ⟨q, 0, none⟩ ((64 - acc.length) * 1)) (enU8 (hx n)) := by
      have h0 : W5.heap[q]? = some (.cells (enU8 (List.replicate (65 - (d16 u :: acc).length) 0 ++ d16 u :: acc)).toArray 120 (0, 0)) := hS.get 0 rfl
      have h1 := row_sub (cells_row h0) ((64 - acc.length) * 1) (hx n).length
      rw [← hr] at h1 ⊢
      unfold enU8 at h1 ⊢
      rw [show 65 - (d16 u :: acc).length = 64 - acc.length by rw [List.length_cons]; omega, List.map_append, List.drop_append_of_le_length (by simp)] at h1
      simpa [List.take_of_length_le] using h1
    refine back_of_row (e := 5) (l := hx n) (by kernel_rfl) (by kernel_rfl) (by kernel_rfl) hrow (by rw [← hr, List.length_cons]; omega) (AsS.mk ⟨rfl, hS.bel⟩))
theorem fu_gives {W : World} (h : V6 W) {n : Nat} (hn : n < 65536) : Gives Tryd.prog 55 #[.int .u64 (n : Int), .int .i64 16] W fun v W' => v = .string (bs (hx n)) ∧ Below W.heap.size W W' := F55_fn (by
  unfold F55
  have hS := Ow.start NoS W
  refine hS.callv (v := .string (bs (hx n))) (F68_fn (by
    unfold F68
    have hS := Ow.start NoS W
    exact If.neg rfl (hS.callv (fb_gives h hn) fun W1 hS => AsT2.mk (AsL.mk rfl (AsS.mk ⟨rfl, hS.bel⟩))))) fun W1 hS => AsS.mk ⟨rfl, hS.bel⟩)
end Go.Proofs.YtpjophfcbaoiaaaDoor.Si
