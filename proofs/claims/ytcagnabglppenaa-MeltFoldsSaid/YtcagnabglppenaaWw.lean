/- Sums in 128 bits. -/
import Derived.Test.YtcagnabglppenaaSv
import Derived.Test.YtcagnabglppenaaPvn
namespace Go.Proofs.Ytcagnabglppenaa.Wd
open Go Go.RowKit Go.Vc Go.Proofs.Ytcagnabglppenaa.Fs Go.Proofs.Ytcagnabglppenaa.Sv

/-! ### Plain -/
/-- What bits come to, the greatest first. -/
def num (f : Nat → Int) : Nat → Int
  | 0 => 0
  | n + 1 => 2 * num f n + f n
/-- The last k of n bits. -/
def low (n : Nat) (f : Nat → Int) : Nat → Int
  | 0 => 0
  | k + 1 => f (n - 1 - k) * 2 ^ k + low n f k
theorem num_low (n : Nat) (f : Nat → Int) : ∀ k, k ≤ n → num f (n - k) * 2 ^ k + low n f k = num f n
  | 0, _ => by simp [low]
  | k + 1, h => by
    have ih := num_low n f k (by omega)
    have e : n - k = (n - (k + 1)) + 1 := by omega
    rw [e] at ih
    simp only [num] at ih
    simp only [low]
    rw [show n - 1 - k = n - (k + 1) by omega]
    rw [← ih, Int.pow_succ, Int.add_mul, Int.mul_assoc, Int.mul_comm 2, Int.mul_assoc]
    generalize num f (n - (k + 1)) * (2 ^ k * 2) = A
    generalize f (n - (k + 1)) * 2 ^ k = B
    omega
theorem low_all (n : Nat) (f : Nat → Int) : low n f n = num f n := by
  have := num_low n f n (Nat.le_refl n)
  rw [Nat.sub_self] at this
  simpa [num] using this
theorem num_split (f : Nat → Int) (m : Nat) : ∀ n, num f (m + n) = num f m * 2 ^ n + num (fun j => f (m + j)) n
  | 0 => by simp [num]
  | n + 1 => by
    have ih := num_split f m n
    show 2 * num f (m + n) + f (m + n) = _
    simp only [num]
    rw [ih, Int.pow_succ, Int.mul_add, ← Int.mul_assoc (num f m), Int.mul_comm 2 (num f m * 2 ^ n)]
    omega
theorem num_congr {f g : Nat → Int} : ∀ n, (∀ j, j < n → f j = g j) → num f n = num g n
  | 0, _ => rfl
  | n + 1, h => by simp only [num]; rw [num_congr n fun j hj => h j (by omega), h n (by omega)]
theorem low_congr {f g : Nat → Int} {n : Nat} : ∀ k, k ≤ n → (∀ j, j < n → f j = g j) → low n f k = low n g k
  | 0, _, _ => rfl
  | k + 1, hk, h => by simp only [low]; rw [low_congr k (by omega) h, h (n - 1 - k) (by omega)]
theorem num_bits {f : Nat → Int} (h : ∀ j, f j = 0 ∨ f j = 1) : ∀ n, 0 ≤ num f n ∧ num f n < 2 ^ n
  | 0 => by simp [num]
  | n + 1 => by
    have ih := num_bits h n
    have := h n
    simp only [num]
    rw [Int.pow_succ]
    omega
/-- The bits of a number below 2^n. -/
def bit (x : Int) (k : Nat) : Int := x / 2 ^ k % 2
theorem bit_01 (x : Int) (k : Nat) : bit x k = 0 ∨ bit x k = 1 := by unfold bit; omega
theorem low_bit (n : Nat) (x : Int) : ∀ k, k ≤ n → low n (fun j => bit x (n - 1 - j)) k + x / 2 ^ k * 2 ^ k = x
  | 0, _ => by simp [low]
  | k + 1, h => by
    have ih := low_bit n x k (by omega)
    simp only [low]
    rw [show n - 1 - (n - 1 - k) = k by omega]
    have e : x / 2 ^ (k + 1) = x / 2 ^ k / 2 := by rw [Int.pow_succ, Int.ediv_ediv_of_nonneg (Int.pow_nonneg (by decide))]
    rw [e, show bit x k = x / 2 ^ k % 2 from rfl]
    have e2 : x / 2 ^ k % 2 * 2 ^ k + x / 2 ^ k / 2 * 2 ^ (k + 1) = x / 2 ^ k * 2 ^ k := by
      rw [Int.pow_succ, Int.mul_comm (2 ^ k) 2, ← Int.mul_assoc, ← Int.add_mul]
      congr 1
      omega
    omega
theorem num_bit {n : Nat} {x : Int} (h0 : 0 ≤ x) (h : x < 2 ^ n) : num (fun j => bit x (n - 1 - j)) n = x := by
  have := low_bit n x n (Nat.le_refl n)
  rw [Int.ediv_eq_zero_of_lt h0 h, Int.zero_mul, low_all] at this
  omega
end Go.Proofs.Ytcagnabglppenaa.Wd
namespace Go.Proofs.Ytcagnabglppenaa.Wd
open Go Go.RowKit Go.Vc Go.Proofs.Ytcagnabglppenaa.Fs Go.Proofs.Ytcagnabglppenaa.Px Go.Proofs.Ytcagnabglppenaa.Sv

theorem p64 : ∀ k : Nat, k ≤ 64 → (2 : Int) ^ k ≤ 18446744073709551616 := by decide +kernel
def barr (f : Nat → Int) : Array Value := ((List.range 128).map fun j => Value.int .u64 (f j)).toArray
theorem barr_get (f : Nat → Int) {j : Nat} (h : j < 128) : (barr f)[0 + j * 1]? = some (.int .u64 (f j)) := by simp [barr, h]
theorem barr_set (f : Nat → Int) {m : Nat} (h : m < 128) (v : Int) : (barr f).setIfInBounds (0 + m * 1) (.int .u64 v) = barr fun j => if j = m then v else f j := by
  unfold barr
  rw [List.setIfInBounds_toArray]
  congr 1
  apply List.ext_getElem?
  intro i
  rw [List.getElem?_set]
  by_cases e : 0 + m * 1 = i
  · have : m = i := by omega
    subst this
    simp [h]
  · have : ¬ i = m := by omega
    rw [if_neg e]
    simp only [List.getElem?_map]
    rcases Nat.lt_or_ge i 128 with hi | hi
    · simp [hi, this]
    · rw [List.getElem?_eq_none (by simpa using hi)]; rfl
theorem barr_size (f : Nat → Int) : (barr f).size = 128 := by simp [barr]
theorem barr_congr {f g : Nat → Int} (h : ∀ j, j < 128 → f j = g j) : barr f = barr g := by
  unfold barr
  congr 1
  exact List.map_congr_left fun j hj => by rw [h j (List.mem_range.1 hj)]
def wv (hi lo : Int) : Value := .agg #[.int .u64 hi, .int .u64 lo]
theorem atMost_gives {W : World} (hi lo n : Int) : Gives Try.prog 93 #[wv hi lo, .int .u64 n] W fun v W' => v = .bool (decide (hi = 0 ∧ lo ≤ n)) ∧ Below W.heap.size W W' := F93_fn (by
  unfold F93
  refine NewA.mk fun b W1 h1 hb1 hsz1 hbl1 => ?_
  refine Ld1.mk h1 (u := .int .u64 hi) rfl ⟨_, rfl, Join.use fun J hJ => If.beq (fun h => ?_) fun h => ?_⟩
  · refine Ld1.ad h1 (u := .int .u64 lo) rfl ⟨_, rfl, ?_⟩
    rw [hJ]
    refine ⟨?_, hbl1⟩
    simp [h]
  · rw [hJ]
    refine ⟨?_, hbl1⟩
    simp [h])
theorem of_gives' {W : World} {f : Nat → Int} (hf : ∀ j, f j = 0 ∨ f j = 1) : Gives Try.prog 122 #[.agg (barr f)] W fun v W' => v = wv (num f 64) (num (fun j => f (64 + j)) 64) ∧ Below W.heap.size W W' := F122_fn (by
  unfold F122
  refine NewA.mk fun b1 W1 h1 hb1 hsz1 hbl1 => NewA.mk fun b2 W2 h2 hb2 hsz2 hbl2 => ?_
  refine ⟨trivial, ?_⟩
  refine NewA.mk fun b3 W3 h3 hb3 hsz3 hbl3 => ?_
  refine StV.to h3 (v := wv 0 0) rfl (by decide) rfl (cs := #[.int .u64 0, .int .u64 0]) rfl fun W4 h34 hsz4 hf4 => ?_
  have z1 := hbl1.size; have z2 := hbl2.size; have z3 := hbl3.size
  have B3 := (hbl1.trans (hbl2.mono z1)).trans (hbl3.mono (by omega))
  have f04 : Fr (fun q => W.heap.size ≤ q) W W4 := (frOf (S := fun q => W.heap.size ≤ q) B3).trans' hf4 fun q hq _ => by omega
  have h14 := hf4.at (by omega) (belowAt hbl3 (belowAt hbl2 h1))
  have h24 := hf4.at (by omega) (belowAt hbl3 h2)
  refine Lp.i1 (fun s W' => ∃ i : Nat, s = (i : Int) ∧ i ≤ 64 ∧ W'.heap[b1]? = some (.cells (barr f) 174 (0, 0)) ∧ W'.heap[b2]? = some (.cells #[.int .u64 0, .int .u64 0] 135 (0, 0)) ∧ W'.heap[b3]? = some (.cells #[.int .u64 (num f i), .int .u64 (num (fun j => f (64 + j)) i)] 135 (0, 0)) ∧ Fr (fun q => W.heap.size ≤ q) W W')
    (fun s _ => (100 - s).toNat) ⟨0, rfl, by omega, h14, h24, h34, f04⟩ ?_
  rintro s W5 k ⟨i, rfl, hi, g1, g2, g3, gf⟩ hk
  refine ⟨_, rfl, If.dec (fun hlt => ?_) fun hge => ?_⟩
  · have hb := num_bits hf (i + 1)
    have hg := num_bits (f := fun j => f (64 + j)) (fun j => hf _) (i + 1)
    have hp := p64 (i + 1) (by omega)
    have hb0 := num_bits hf i
    have hg0 := num_bits (f := fun j => f (64 + j)) (fun j => hf _) i
    simp only [num] at hb hg
    have hfi := hf i
    have hgi := hf (64 + i)
    refine Ld1.mk g3 (u := .int .u64 (num f i)) rfl ⟨_, rfl, ?_⟩
    intro W6 hb6
    refine Px.IdxA.mk (j := i) rfl (by omega) (Ld1.ad (belowAt hb6 g1) (barr_get f (by omega)) ⟨_, rfl, ?_⟩)
    dsimp only
    rw [wrap_u64 (x := 2 * num f i) (by omega) (by omega), wrap_u64 (x := 2 * num f i + f i) (by omega) (by omega)]
    refine StV.to1 (belowAt hb6 g3) (v := .int .u64 (2 * num f i + f i)) rfl (show 0 < 2 by decide) rfl fun W7 h37 hsz7 hf7 => ?_
    have z5 := hb6.size; have zg := gf.size
    have b1lt := heap_lt g1; have b2lt := heap_lt g2; have b3lt := heap_lt g3
    have h17 := hf7.at (by omega) (belowAt hb6 g1)
    have h27 := hf7.at (by omega) (belowAt hb6 g2)
    refine Ld1.ad h37 (u := .int .u64 (num (fun j => f (64 + j)) i)) rfl ⟨_, rfl, ?_⟩
    intro W8 hb8
    have ew : IntKind.i64.wrap (64 + (i : Int)) = ((64 + i : Nat) : Int) := by rw [wrap_i64] <;> omega
    rw [ew]
    refine Px.IdxA.mk (j := 64 + i) rfl (by omega) (Ld1.ad (belowAt hb8 h17) (barr_get f (by omega)) ⟨_, rfl, ?_⟩)
    dsimp only
    rw [wrap_u64 (x := 2 * num (fun j => f (64 + j)) i) (by omega) (by omega), wrap_u64 (x := 2 * num (fun j => f (64 + j)) i + f (64 + i)) (by omega) (by omega)]
    refine StV.ad1 (belowAt hb8 h37) (v := .int .u64 (2 * num (fun j => f (64 + j)) i + f (64 + i))) rfl (show 0 + 1 < 2 by decide) rfl fun W9 h39 hsz9 hf9 => ?_
    have z8 := hb8.size; have z7 := hf7.size
    show k [.int .i64 (IntKind.i64.wrap ((i : Int) + 1))] W9
    rw [nsucc (by omega)]
    exact hk _ W9 ⟨i + 1, rfl, by omega, hf9.at (by omega) (belowAt hb8 h17), hf9.at (by omega) (belowAt hb8 h27), h39, (((gf.trans (frOf hb6)).trans' hf7 fun q hq _ => by omega).trans (frOf hb8)).trans' hf9 fun q hq _ => by omega⟩ (by omega)
  · have : i = 64 := by omega
    subst this
    refine LdNC.mk g3 (cs := [.int .u64 (num f 64), .int .u64 (num (fun j => f (64 + j)) 64)]) rfl rfl ?_
    refine StV.to g2 (v := wv (num f 64) (num (fun j => f (64 + j)) 64)) rfl (by decide) rfl (cs := #[.int .u64 (num f 64), .int .u64 (num (fun j => f (64 + j)) 64)]) rfl fun W6 h26 hsz6 hf6 => ?_
    refine LdNC.mk h26 (cs := [.int .u64 (num f 64), .int .u64 (num (fun j => f (64 + j)) 64)]) rfl rfl ?_
    exact ⟨rfl, (gf.trans' hf6 fun q hq _ => by omega).bel⟩)
end Go.Proofs.Ytcagnabglppenaa.Wd
namespace Go.Proofs.Ytcagnabglppenaa.Wd
open Go Go.RowKit Go.Vc Go.Proofs.Ytcagnabglppenaa.Fs Go.Proofs.Ytcagnabglppenaa.Px Go.Proofs.Ytcagnabglppenaa.Sv

def bt (hi lo : Int) (j : Nat) : Int := if j < 64 then bit hi (63 - j) else bit lo (127 - j)
theorem bt_01 (hi lo : Int) (j : Nat) : bt hi lo j = 0 ∨ bt hi lo j = 1 := by unfold bt; split <;> exact bit_01 _ _
def btI (hi lo : Int) (i j : Nat) : Int := if j < 64 then (if 63 - j < i then bit hi (63 - j) else 0) else if 127 - j < i then bit lo (127 - j) else 0
theorem ld_barr {W : World} {b : Nat} {t : TypeId} {f : Nat → Int} {k : List Value → Prop} (h : W.heap[b]? = some (.cells (barr f) t (0, 0))) (hk : k (barr f).toList) : LdNC W ⟨b, 0, none⟩ 128 k :=
  LdNC.mk h (by simp [barr]) (by rw [List.drop_zero, List.take_of_length_le (by simp [barr])]) hk
theorem st_barr {W : World} {b : Nat} {t : TypeId} {f g : Nat → Int} {k : World → Prop} (h : W.heap[b]? = some (.cells (barr g) t (0, 0))) (hk : ∀ W', W'.heap[b]? = some (.cells (barr f) t (0, 0)) → W'.heap.size = W.heap.size → Fr (fun x => x = b) W W' → k W') : StV 128 W ⟨b, 0, none⟩ (.agg (barr f)) k := by
  refine StV.to h (by simp [Value.cells, barr]) (by simp [barr]) ?_ (cs := barr f) ?_ hk
  · rw [List.all_eq_true]
    intro x hx
    have : x ∈ (barr f).toList := hx
    simp only [barr, List.mem_map] at this
    obtain ⟨j, _, rfl⟩ := this
    rfl
  · show ((barr g).toList.take 0 ++ (barr f).toList ++ (barr g).toList.drop (0 + 128)).toArray = barr f
    rw [List.take_zero, List.nil_append, List.drop_eq_nil_of_le (by simp [barr]), List.append_nil]
theorem bits_gives' {W : World} {hi lo : Int} (h1 : 0 ≤ hi ∧ hi < 18446744073709551616) (h2 : 0 ≤ lo ∧ lo < 18446744073709551616) :
    Gives Try.prog 121 #[wv hi lo] W fun v W' => v = .agg (barr (bt hi lo)) ∧ Below W.heap.size W W' := F121_fn (by
  unfold F121
  refine NewA.mk fun b1 W1 g1 hb1 hsz1 hbl1 => NewA.mk fun b2 W2 g2 hb2 hsz2 hbl2 => NewA.mk fun b3 W3 g3 hb3 hsz3 hbl3 => ?_
  have z1 := hbl1.size; have z2 := hbl2.size; have z3 := hbl3.size
  have B3 := (hbl1.trans (hbl2.mono z1)).trans (hbl3.mono (by omega))
  refine Lp.i1 (fun s W' => ∃ i : Nat, s = (i : Int) ∧ i ≤ 64 ∧ W'.heap[b1]? = some (.cells #[.int .u64 (hi / 2 ^ i), .int .u64 (lo / 2 ^ i)] 135 (0, 0)) ∧ W'.heap[b2]? = some (.cells (barr fun _ => 0) 174 (0, 0)) ∧ W'.heap[b3]? = some (.cells (barr (btI hi lo i)) 174 (0, 0)) ∧ Fr (fun q => W.heap.size ≤ q) W W')
    (fun s _ => (100 - s).toNat) ⟨0, rfl, by omega, by simpa [wv] using belowAt hbl3 (belowAt hbl2 g1), belowAt hbl3 g2, ?_, frOf B3⟩ ?_
  · have : barr (btI hi lo 0) = barr fun _ => 0 := barr_congr fun j _ => by unfold btI; simp
    rw [this]; exact g3
  rintro s W4 k ⟨i, rfl, hi64, q1, q2, q3, qf⟩ hk
  refine ⟨_, rfl, If.dec (fun hlt => ?_) fun hge => ?_⟩
  · have hp0 : ∀ x : Int, 0 ≤ x → 0 ≤ x / 2 ^ i := fun x hx => Int.ediv_nonneg hx (Int.pow_nonneg (by decide))
    have hp1 : ∀ x : Int, 0 ≤ x → x / 2 ^ i ≤ x := fun x hx => Int.ediv_le_self _ hx
    have e63 : IntKind.i64.wrap (63 - (i : Int)) = ((63 - i : Nat) : Int) := by rw [wrap_i64] <;> omega
    have e127 : IntKind.i64.wrap (127 - (i : Int)) = ((127 - i : Nat) : Int) := by rw [wrap_i64] <;> omega
    have hstep : ∀ x : Int, x / 2 ^ (i + 1) = x / 2 ^ i / 2 := fun x => by rw [Int.pow_succ, Int.ediv_ediv_of_nonneg (Int.pow_nonneg (by decide))]
    have hh0 := hp0 hi h1.1; have hl0 := hp0 lo h2.1; have hh1 := hp1 hi h1.1; have hl1 := hp1 lo h2.1
    have th : (hi / 2 ^ i).tmod 2 = bit hi i := Int.tmod_eq_emod_of_nonneg hh0
    have tl : (lo / 2 ^ i).tmod 2 = bit lo i := Int.tmod_eq_emod_of_nonneg hl0
    have dh : (hi / 2 ^ i).tdiv 2 = hi / 2 ^ (i + 1) := by rw [hstep]; exact Int.tdiv_eq_ediv_of_nonneg hh0
    have dl : (lo / 2 ^ i).tdiv 2 = lo / 2 ^ (i + 1) := by rw [hstep]; exact Int.tdiv_eq_ediv_of_nonneg hl0
    have b1lt := heap_lt q1; have b2lt := heap_lt q2; have b3lt := heap_lt q3; have zf := qf.size
    refine Ld1.mk q1 (u := .int .u64 (hi / 2 ^ i)) rfl ⟨_, rfl, by decide, ?_⟩
    rw [e63, th]
    refine Px.IdxA.mk (j := 63 - i) rfl (by omega) ?_
    refine StV.ad1 q3 (v := .int .u64 (bit hi i)) rfl (by rw [barr_size]; omega) rfl fun W5 q35 hsz5 hf5 => ?_
    rw [barr_set _ (by omega)] at q35
    have q15 := hf5.at (by omega) q1
    refine Ld1.ad q15 (u := .int .u64 (lo / 2 ^ i)) rfl ⟨_, rfl, by decide, ?_⟩
    rw [e127, tl]
    refine Px.IdxA.mk (j := 127 - i) rfl (by omega) ?_
    refine StV.ad1 q35 (v := .int .u64 (bit lo i)) rfl (by rw [barr_size]; omega) rfl fun W6 q36 hsz6 hf6 => ?_
    rw [barr_set _ (by omega)] at q36
    have q16 := hf6.at (by omega) q15
    refine Ld1.mk q16 (u := .int .u64 (hi / 2 ^ i)) rfl ⟨_, rfl, by decide, ?_⟩
    refine Ld1.ad q16 (u := .int .u64 (lo / 2 ^ i)) rfl ⟨_, rfl, by decide, ?_⟩
    have u1 := hstep hi; have u2 := hstep lo
    rw [dh, dl, wrap_u64 (x := hi / 2 ^ (i + 1)) (by omega) (by omega)]
    refine StV.to1 q16 (v := .int .u64 (hi / 2 ^ (i + 1))) rfl (show 0 < 2 by decide) rfl fun W7 q17 hsz7 hf7 => ?_
    rw [wrap_u64 (x := lo / 2 ^ (i + 1)) (by omega) (by omega)]
    refine StV.ad1 q17 (v := .int .u64 (lo / 2 ^ (i + 1))) rfl (show 0 + 1 < 2 by decide) rfl fun W8 q18 hsz8 hf8 => ?_
    show k [.int .i64 (IntKind.i64.wrap ((i : Int) + 1))] W8
    rw [nsucc (by omega)]
    refine hk _ W8 ⟨i + 1, rfl, by omega, q18, hf8.at (by omega) (hf7.at (by omega) (hf6.at (by omega) (hf5.at (by omega) q2))), ?_, (((qf.trans' hf5 fun q hq _ => by omega).trans' hf6 fun q hq _ => by omega).trans' hf7 fun q hq _ => by omega).trans' hf8 fun q hq _ => by omega⟩ (by omega)
    refine (hf8.at (by omega) (hf7.at (by omega) q36)).trans ?_
    congr 2
    refine barr_congr fun j hj => ?_
    by_cases c1 : j = 127 - i
    · subst c1
      rw [if_pos rfl]
      unfold btI
      rw [if_neg (by omega), if_pos (by omega), show 127 - (127 - i) = i by omega]
    · rw [if_neg c1]
      by_cases c2 : j = 63 - i
      · subst c2
        rw [if_pos rfl]
        unfold btI
        rw [if_pos (by omega), if_pos (by omega), show 63 - (63 - i) = i by omega]
      · rw [if_neg c2]
        unfold btI
        by_cases c3 : j < 64
        · rw [if_pos c3, if_pos c3]
          by_cases c4 : 63 - j < i
          · rw [if_pos c4, if_pos (by omega)]
          · rw [if_neg c4, if_neg (by omega)]
        · rw [if_neg c3, if_neg c3]
          by_cases c4 : 127 - j < i
          · rw [if_pos c4, if_pos (by omega)]
          · rw [if_neg c4, if_neg (by omega)]
  · have : i = 64 := by omega
    subst this
    have b1lt := heap_lt q1; have b2lt := heap_lt q2; have b3lt := heap_lt q3; have zf := qf.size
    refine ld_barr q3 ?_
    have e : ((barr (btI hi lo 64)).toList).toArray = barr (bt hi lo) := by
      rw [Array.toArray_toList]
      refine barr_congr fun j hj => ?_
      unfold btI bt
      by_cases c : j < 64
      · rw [if_pos c, if_pos c, if_pos (by omega)]
      · rw [if_neg c, if_neg c, if_pos (by omega)]
    rw [e]
    refine st_barr q2 fun W5 q25 hsz5 hf5 => ?_
    refine ld_barr q25 ?_
    refine ⟨by rw [Array.toArray_toList], (qf.trans' hf5 fun q hq _ => by omega).bel⟩)
end Go.Proofs.Ytcagnabglppenaa.Wd
namespace Go.Proofs.Ytcagnabglppenaa.Wd
open Go Go.RowKit Go.Vc Go.Proofs.Ytcagnabglppenaa.Fs Go.Proofs.Ytcagnabglppenaa.Px Go.Proofs.Ytcagnabglppenaa.Sv

theorem low_congr' {f g : Nat → Int} {n : Nat} : ∀ k, k ≤ n → (∀ j, n - k ≤ j → j < n → f j = g j) → low n f k = low n g k
  | 0, _, _ => rfl
  | k + 1, hk, h => by simp only [low]; rw [low_congr' k (by omega) fun j h1 h2 => h j (by omega) h2, h (n - 1 - k) (by omega) (by omega)]
theorem low_bt {hi lo : Int} (h1 : 0 ≤ hi ∧ hi < 18446744073709551616) (h2 : 0 ≤ lo ∧ lo < 18446744073709551616) : low 128 (bt hi lo) 128 = hi * 18446744073709551616 + lo := by
  rw [low_all]
  have e : (18446744073709551616 : Int) = 2 ^ 64 := by decide
  have s := num_split (bt hi lo) 64 64
  have a : num (bt hi lo) 64 = hi := by
    rw [num_congr (g := fun j => bit hi (64 - 1 - j)) 64 fun j hj => by unfold bt; rw [if_pos hj]]
    exact num_bit h1.1 (by rw [← e]; exact h1.2)
  have b : num (fun j => bt hi lo (64 + j)) 64 = lo := by
    rw [num_congr (g := fun j => bit lo (64 - 1 - j)) 64 fun j hj => by unfold bt; rw [if_neg (by omega), show 127 - (64 + j) = 64 - 1 - j by omega]]
    exact num_bit h2.1 (by rw [← e]; exact h2.2)
  rw [a, b, ← e] at s
  exact s
theorem add_gives' {W : World} {ah al bh bl : Int} (a1 : 0 ≤ ah ∧ ah < 18446744073709551616) (a2 : 0 ≤ al ∧ al < 18446744073709551616) (b1 : 0 ≤ bh ∧ bh < 18446744073709551616) (b2 : 0 ≤ bl ∧ bl < 18446744073709551616) :
    Gives Try.prog 92 #[wv ah al, wv bh bl] W fun v W' => (∃ h l c, v = .tuple #[wv h l, .bool c] ∧ (0 ≤ h ∧ h < 18446744073709551616) ∧ (0 ≤ l ∧ l < 18446744073709551616) ∧
      (ah * 18446744073709551616 + al + (bh * 18446744073709551616 + bl) < 340282366920938463463374607431768211456 → h * 18446744073709551616 + l = ah * 18446744073709551616 + al + (bh * 18446744073709551616 + bl))) ∧ Below W.heap.size W W' := F92_fn (by
  unfold F92
  refine NewA.mk fun c2 W1 h2 hc2 hsz1 hbl1 => NewA.mk fun c3 W2 h3 hc3 hsz2 hbl2 => NewA.mk fun c4 W3 h4 hc4 hsz3 hbl3 => ?_
  have z1 := hbl1.size; have z2 := hbl2.size; have z3 := hbl3.size
  have B3 := (hbl1.trans (hbl2.mono z1)).trans (hbl3.mono (by omega))
  refine LdNC.mk (belowAt hbl3 (belowAt hbl2 h2)) (cs := [.int .u64 ah, .int .u64 al]) rfl rfl ?_
  refine Px.CallQ.bel (v := .agg (barr (bt ah al))) (fun W' => bits_gives' a1 a2) ?_
  refine LdNC.mk (belowAt hbl3 h3) (cs := [.int .u64 bh, .int .u64 bl]) rfl rfl ?_
  refine Px.CallQ.bel (v := .agg (barr (bt bh bl))) (fun W' => bits_gives' b1 b2) ?_
  intro W4 hb4
  rintro lo6 hi6 v6 hF6 ⟨rfl, hlt6, h6⟩
  refine ⟨_, rfl, ?_⟩
  rintro lo7 hi7 v7 hF7 ⟨rfl, hlt7, h7⟩
  refine ⟨_, rfl, ?_⟩
  have g6 := hF6.1; have g7 := hF7.1; have g67 := hF7.2.2.2 (lo6, hi6) (by simp)
  simp only at g67
  have h6' : W4.heap[lo6]? = some (.cells (barr fun _ => 0) 174 (0, 0)) := h6
  have h7' : W4.heap[lo7]? = some (.cells (barr fun _ => 0) 174 (0, 0)) := h7
  refine st_barr h6' fun W5 h65 hsz5 hf5 => ?_
  have h75 := hf5.at (by omega) h7'
  refine st_barr h75 fun W6 h76 hsz6 hf6 => ?_
  have h66 := hf6.at (by omega) h65
  refine NewA.mk fun c8 W7 h8 hc8 hsz7 hbl7 => ?_
  have h67 := belowAt hbl7 h66
  have h77 := belowAt hbl7 h76
  have z4 := hb4.size
  have f07 : Fr (fun q => W.heap.size ≤ q) W W7 := ((((frOf (S := fun q => W.heap.size ≤ q) B3).trans (frOf hb4)).trans' hf5 fun q hq _ => by omega).trans' hf6 fun q hq _ => by omega).trans (frOf hbl7)
  have b6lt := heap_lt h66; have b7lt := heap_lt h76
  have h4' := belowAt hbl7 (hf6.at (by have := heap_lt h4; omega) (hf5.at (by have := heap_lt h4; omega) (belowAt hb4 h4)))
  have c4lt := heap_lt h4
  refine Lp.enc (fun s : Int × Int => [.int .u64 s.1, .int .i64 s.2]) (fun s t hst => by simp at hst; exact Prod.ext hst.1 hst.2)
    (fun s W' => ∃ (k : Nat) (g : Nat → Int), s.2 = 127 - (k : Int) ∧ k ≤ 128 ∧ (s.1 = 0 ∨ s.1 = 1) ∧ (∀ j, g j = 0 ∨ g j = 1) ∧ low 128 (bt ah al) k + low 128 (bt bh bl) k = low 128 g k + s.1 * 2 ^ k ∧
      W'.heap[lo6]? = some (.cells (barr (bt ah al)) 174 (0, 0)) ∧ W'.heap[lo7]? = some (.cells (barr (bt bh bl)) 174 (0, 0)) ∧ W'.heap[c8]? = some (.cells (barr g) 174 (0, 0)) ∧ W'.heap[c4]? = some (.cells #[.int .u64 0, .int .u64 0] 135 (0, 0)) ∧ Fr (fun q => W.heap.size ≤ q) W W')
    (fun s _ => (s.2 + 1).toNat) (0, 127) rfl ⟨0, fun _ => 0, rfl, by omega, .inl rfl, fun _ => .inl rfl, by simp [low], h67, h77, h8, h4', f07⟩ ?_
  rintro ⟨c, x10⟩ W8 kk ⟨k, g, hx, hk, hc, hg, heq, q6, q7, q8, q4, qf⟩ hkk
  simp only at hx hc heq
  subst hx
  have l8 := heap_lt q8; have l6 := heap_lt q6; have l7 := heap_lt q7; have zf := qf.size
  refine AsI.mk (AsI.mk (If.dec (fun hge => ?_) fun hlt => ?_))
  · have hge' : (127 : Int) - (k : Int) ≥ 0 := hge
    have hxa := bt_01 ah al (127 - k)
    have hxb := bt_01 bh bl (127 - k)
    have hi : (127 : Int) - (k : Int) = ((127 - k : Nat) : Int) := by omega
    refine Px.IdxA.mk (j := 127 - k) hi (by omega) (Ld1.ad q6 (barr_get _ (by omega)) ⟨_, rfl, ?_⟩)
    refine Px.IdxA.mk (j := 127 - k) hi (by omega) (Ld1.ad q7 (barr_get _ (by omega)) ⟨_, rfl, ?_⟩)
    intro W9 hb9
    refine ⟨by decide, ?_⟩
    refine Px.IdxA.mk (j := 127 - k) hi (by omega) ?_
    dsimp only
    rw [wrap_u64 (x := bt ah al (127 - k) + bt bh bl (127 - k)) (by omega) (by omega), wrap_u64 (x := bt ah al (127 - k) + bt bh bl (127 - k) + c) (by omega) (by omega)]
    generalize hA : bt ah al (127 - k) = A at hxa
    generalize hB : bt bh bl (127 - k) = B at hxb
    have t1 : (A + B + c).tmod 2 = (A + B + c) % 2 := Int.tmod_eq_emod_of_nonneg (by omega)
    have t2 : (A + B + c).tdiv 2 = (A + B + c) / 2 := Int.tdiv_eq_ediv_of_nonneg (by omega)
    rw [t1, t2]
    refine StV.ad1 (belowAt hb9 q8) (v := .int .u64 ((A + B + c) % 2)) rfl (by rw [barr_size]; omega) rfl fun W10 q10 hsz10 hf10 => ?_
    rw [barr_set _ (by omega)] at q10
    refine ⟨by decide, ?_⟩
    rw [wrap_u64 (x := (A + B + c) / 2) (by omega) (by omega)]
    have ew : IntKind.i64.wrap (127 - (k : Int) - 1) = 127 - ((k + 1 : Nat) : Int) := by rw [wrap_i64] <;> omega
    rw [ew]
    have z9 := hb9.size
    refine hkk ((A + B + c) / 2, 127 - ((k + 1 : Nat) : Int)) W10 ⟨k + 1, _, rfl, by omega, by simp only; omega, fun j => ?_, ?_, hf10.at (by omega) (belowAt hb9 q6), hf10.at (by omega) (belowAt hb9 q7), q10, hf10.at (by omega) (belowAt hb9 q4), (qf.trans (frOf hb9)).trans' hf10 fun q hq _ => by omega⟩ (by simp only; omega)
    · by_cases e : j = 127 - k
      · rw [if_pos e]; omega
      · rw [if_neg e]; exact hg j
    · have e1 : low 128 (fun j => if j = 127 - k then (A + B + c) % 2 else g j) k = low 128 g k := low_congr' k (by omega) fun j h1 h2 => by rw [if_neg (by omega)]
      simp only [low]
      rw [e1, show 128 - 1 - k = 127 - k by omega, hA, hB, if_pos trivial, Int.pow_succ]
      have d := Int.emod_add_mul_ediv (A + B + c) 2
      have e2 : A * 2 ^ k + low 128 (bt ah al) k + (B * 2 ^ k + low 128 (bt bh bl) k) = (A + B + c) * 2 ^ k + low 128 g k := by
        rw [Int.add_mul, Int.add_mul]; omega
      rw [e2]
      have e3 : (A + B + c) * 2 ^ k = (A + B + c) % 2 * 2 ^ k + (A + B + c) / 2 * (2 ^ k * 2) := by
        rw [Int.mul_comm (2 ^ k) 2, ← Int.mul_assoc, ← Int.add_mul, Int.mul_comm ((A + B + c) / 2) 2, d]
      omega
  · have hlt' : ¬ (127 : Int) - (k : Int) ≥ 0 := hlt
    have : k = 128 := by omega
    subst this
    refine ld_barr q8 ?_
    rw [Array.toArray_toList]
    refine CallK.mk (of_gives' hg) ?_
    rintro _ W9 ⟨rfl, hb9⟩
    have q49 := belowAt hb9 q4
    refine StV.to q49 (v := wv (num g 64) (num (fun j => g (64 + j)) 64)) rfl (by decide) rfl (cs := #[.int .u64 (num g 64), .int .u64 (num (fun j => g (64 + j)) 64)]) rfl fun W10 q410 hsz10 hf10 => ?_
    refine LdNC.mk q410 (cs := [.int .u64 (num g 64), .int .u64 (num (fun j => g (64 + j)) 64)]) rfl rfl ?_
    have e : (18446744073709551616 : Int) = 2 ^ 64 := by decide
    have n1 := num_bits hg 64
    have n2 := num_bits (f := fun j => g (64 + j)) (fun j => hg _) 64
    have n3 := num_bits hg 128
    have s : num g 128 = num g 64 * 2 ^ 64 + num (fun j => g (64 + j)) 64 := num_split g 64 64
    rw [← e] at n1 n2 s
    rw [low_bt a1 a2, low_bt b1 b2, low_all] at heq
    have e128 : (2 : Int) ^ 128 = 340282366920938463463374607431768211456 := by decide
    rw [e128] at heq
    refine ⟨⟨_, _, _, rfl, n1, n2, fun hlt => ?_⟩, ((qf.trans (frOf hb9)).trans' hf10 fun q hq _ => by omega).bel⟩
    omega)
theorem emod_step (b : Int) (i : Nat) : b % 2 ^ (i + 1) = b % 2 ^ i + b / 2 ^ i % 2 * 2 ^ i := by
  have h1 := Int.emod_add_mul_ediv b (2 ^ i)
  have h2 := Int.emod_add_mul_ediv b (2 ^ (i + 1))
  have h3 : b / 2 ^ (i + 1) = b / 2 ^ i / 2 := by rw [Int.pow_succ, Int.ediv_ediv_of_nonneg (Int.pow_nonneg (by decide))]
  rw [h3, Int.pow_succ] at h2
  rw [Int.pow_succ]
  have h4 := Int.emod_add_mul_ediv (b / 2 ^ i) 2
  have h5 : 2 ^ i * (b / 2 ^ i) = b / 2 ^ i % 2 * 2 ^ i + 2 ^ i * 2 * (b / 2 ^ i / 2) := by
    rw [Int.mul_comm (b / 2 ^ i % 2), Int.mul_assoc, ← Int.mul_add, h4]
  omega
theorem mul_gives' {W : World} {a b : Int} (ha : 0 ≤ a ∧ a < 18446744073709551616) (hb : 0 ≤ b ∧ b < 18446744073709551616) :
    Gives Try.prog 90 #[.int .u64 a, .int .u64 b] W fun v W' => (∃ h l, v = wv h l ∧ (0 ≤ h ∧ h < 18446744073709551616) ∧ (0 ≤ l ∧ l < 18446744073709551616) ∧ h * 18446744073709551616 + l = a * b) ∧ Below W.heap.size W W' := F90_fn (by
  unfold F90
  refine NewA.mk fun b4 W1 h4 hb4 hsz1 hbl1 => ?_
  refine ⟨trivial, ⟨rfl, by decide, trivial⟩, ?_⟩
  refine NewA.mk fun b5 W2 h5 hb5 hsz2 hbl2 => NewA.mk fun b6 W3 h6 hb6 hsz3 hbl3 => ?_
  refine StV.to (belowAt hbl3 h5) (v := wv 0 0) rfl (by decide) rfl (cs := #[.int .u64 0, .int .u64 0]) rfl fun W4 h54 hsz4 hf4 => ?_
  refine StV.to (hf4.at (by omega) h6) (v := wv 0 a) rfl (by decide) rfl (cs := #[.int .u64 0, .int .u64 a]) rfl fun W5 h65 hsz5 hf5 => ?_
  have z1 := hbl1.size; have z2 := hbl2.size; have z3 := hbl3.size
  have B3 := (hbl1.trans (hbl2.mono z1)).trans (hbl3.mono (by omega))
  have f05 : Fr (fun q => W.heap.size ≤ q) W W5 := ((frOf (S := fun q => W.heap.size ≤ q) B3).trans' hf4 fun q hq _ => by omega).trans' hf5 fun q hq _ => by omega
  refine Lp.enc (fun s : Int × Int => [.int .u64 s.1, .int .i64 s.2]) (fun s t hst => by simp at hst; exact Prod.ext hst.1 hst.2)
    (fun s W' => ∃ (i : Nat) (oh ol xh xl : Int), s.2 = (i : Int) ∧ i ≤ 64 ∧ s.1 = b / 2 ^ i ∧ (0 ≤ oh ∧ oh < 18446744073709551616) ∧ (0 ≤ ol ∧ ol < 18446744073709551616) ∧ (0 ≤ xh ∧ xh < 18446744073709551616) ∧ (0 ≤ xl ∧ xl < 18446744073709551616) ∧
      oh * 18446744073709551616 + ol = a * (b % 2 ^ i) ∧ xh * 18446744073709551616 + xl = a * 2 ^ i ∧ W'.heap[b4]? = some (.cells #[.int .u64 0, .int .u64 0] 135 (0, 0)) ∧ W'.heap[b5]? = some (.cells #[.int .u64 oh, .int .u64 ol] 135 (0, 0)) ∧ W'.heap[b6]? = some (.cells #[.int .u64 xh, .int .u64 xl] 135 (0, 0)) ∧ Fr (fun q => W.heap.size ≤ q) W W')
    (fun s _ => (100 - s.2).toNat) (b, 0) rfl ⟨0, 0, 0, 0, a, rfl, by omega, by simp, by decide, by decide, by decide, ha, by simp [Int.emod_one], by simp, hf5.at (by omega) (hf4.at (by omega) (belowAt hbl3 (belowAt hbl2 h4))), hf5.at (by omega) h54, h65, f05⟩ ?_
  rintro ⟨x1, x7⟩ W6 kk ⟨i, oh, ol, xh, xl, hi, hi64, hx1, o1, o2, y1, y2, eo, ex, g4, g5, g6, gf⟩ hkk
  simp only at hi hx1
  subst hi
  subst hx1
  have l4 := heap_lt g4; have l5 := heap_lt g5; have l6 := heap_lt g6; have zf := gf.size
  have hp0 : 0 ≤ b / 2 ^ i := Int.ediv_nonneg hb.1 (Int.pow_nonneg (by decide))
  have hp1 : b / 2 ^ i ≤ b := Int.ediv_le_self _ hb.1
  refine AsI.mk (AsI.mk (If.dec (fun hlt => ?_) fun hge => ?_))
  · have hlt' : (i : Int) < 64 := hlt
    have hp := p64 (i + 1) (by omega)
    have hst := emod_step b i
    have hdv : b / 2 ^ (i + 1) = b / 2 ^ i / 2 := by rw [Int.pow_succ, Int.ediv_ediv_of_nonneg (Int.pow_nonneg (by decide))]
    have hm0 : 0 ≤ b % 2 ^ (i + 1) := Int.emod_nonneg _ (by have := Int.pow_pos (n := 2) (m := i + 1) (by decide); omega)
    have hm1 : b % 2 ^ (i + 1) ≤ b := by
      have h2 := Int.emod_add_mul_ediv b (2 ^ (i + 1))
      have h3 : 0 ≤ 2 ^ (i + 1) * (b / 2 ^ (i + 1)) := Int.mul_nonneg (Int.pow_nonneg (by decide)) (Int.ediv_nonneg hb.1 (Int.pow_nonneg (by decide)))
      omega
    have hprod : a * (b % 2 ^ (i + 1)) ≤ 18446744073709551615 * 18446744073709551615 := Int.mul_le_mul (by omega) (by omega) hm0 (by decide)
    have hdbl : a * 2 ^ (i + 1) ≤ 18446744073709551615 * 18446744073709551616 := Int.mul_le_mul (by omega) hp (Int.pow_nonneg (by decide)) (by decide)
    have hex : a * 2 ^ (i + 1) = a * 2 ^ i + a * 2 ^ i := by rw [Int.pow_succ, ← Int.mul_assoc]; omega
    have tm : (b / 2 ^ i).tmod 2 = b / 2 ^ i % 2 := Int.tmod_eq_emod_of_nonneg hp0
    have td : (b / 2 ^ i).tdiv 2 = b / 2 ^ (i + 1) := by rw [hdv]; exact Int.tdiv_eq_ediv_of_nonneg hp0
    refine ⟨by decide, Join.use fun J hJ => ?_⟩
    have next : ∀ (oh' ol' : Int) (W' : World), (0 ≤ oh' ∧ oh' < 18446744073709551616) → (0 ≤ ol' ∧ ol' < 18446744073709551616) → oh' * 18446744073709551616 + ol' = a * (b % 2 ^ (i + 1)) → W'.heap[b4]? = some (.cells #[.int .u64 0, .int .u64 0] 135 (0, 0)) → W'.heap[b5]? = some (.cells #[.int .u64 oh', .int .u64 ol'] 135 (0, 0)) →
        W'.heap[b6]? = some (.cells #[.int .u64 xh, .int .u64 xl] 135 (0, 0)) → Fr (fun q => W.heap.size ≤ q) W W' → J W' := by
      intro oh' ol' W' p1 p2 p3 q4 q5 q6 qf
      rw [hJ]
      refine LdNC.mk q6 (cs := [.int .u64 xh, .int .u64 xl]) rfl rfl ?_
      refine LdNC.mk q6 (cs := [.int .u64 xh, .int .u64 xl]) rfl rfl ?_
      refine CallK.mk (add_gives' y1 y2 y1 y2) ?_
      rintro _ W8 ⟨⟨h, l, c, rfl, r1, r2, r3⟩, hb8⟩
      refine AsT2.mk (AsB.mk ?_)
      refine StV.to (belowAt hb8 q6) (v := wv h l) rfl (show 0 + 2 ≤ 2 by decide) rfl (cs := #[.int .u64 h, .int .u64 l]) rfl fun W9 q69 hsz9 hf9 => ?_
      refine ⟨by decide, ?_⟩
      show kk [.int .u64 (IntKind.u64.wrap ((b / 2 ^ i).tdiv 2)), .int .i64 (IntKind.i64.wrap ((i : Int) + 1))] W9
      rw [td, wrap_u64 (x := b / 2 ^ (i + 1)) (by omega) (by omega), nsucc (by omega)]
      have k4 := heap_lt q4; have k5 := heap_lt q5; have k6 := heap_lt q6; have k0 := qf.size
      exact hkk (b / 2 ^ (i + 1), ((i + 1 : Nat) : Int)) W9 ⟨i + 1, oh', ol', h, l, rfl, by omega, rfl, p1, p2, r1, r2, p3, by have := r3 (by omega); omega, hf9.at (by omega) (belowAt hb8 q4), hf9.at (by omega) (belowAt hb8 q5), q69, (qf.trans (frOf hb8)).trans' hf9 fun q hq _ => by omega⟩ (by simp only; omega)
    rw [tm]
    refine If.beq (fun hone => ?_) fun hzero => ?_
    · refine LdNC.mk g5 (cs := [.int .u64 oh, .int .u64 ol]) rfl rfl ?_
      refine LdNC.mk g6 (cs := [.int .u64 xh, .int .u64 xl]) rfl rfl ?_
      refine CallK.mk (add_gives' o1 o2 y1 y2) ?_
      rintro _ W8 ⟨⟨h, l, c, rfl, r1, r2, r3⟩, hb8⟩
      refine AsT2.mk (AsB.mk ?_)
      refine StV.to (belowAt hb8 g5) (v := wv h l) rfl (show 0 + 2 ≤ 2 by decide) rfl (cs := #[.int .u64 h, .int .u64 l]) rfl fun W9 q59 hsz9 hf9 => ?_
      have es : a * (b % 2 ^ (i + 1)) = a * (b % 2 ^ i) + a * 2 ^ i := by rw [hst, hone, Int.one_mul, Int.mul_add]
      refine next h l W9 r1 r2 ?_ (hf9.at (by omega) (belowAt hb8 g4)) q59 (hf9.at (by omega) (belowAt hb8 g6)) ((gf.trans (frOf hb8)).trans' hf9 fun q hq _ => by omega)
      have := r3 (by omega)
      omega
    · have h0 : b / 2 ^ i % 2 = 0 := by omega
      have es : b % 2 ^ (i + 1) = b % 2 ^ i := by rw [hst, h0, Int.zero_mul, Int.add_zero]
      exact next oh ol W6 o1 o2 (by rw [es]; exact eo) g4 g5 g6 gf
  · have hge' : ¬ (i : Int) < 64 := hge
    have : i = 64 := by omega
    subst this
    have e : (2 : Int) ^ 64 = 18446744073709551616 := by decide
    refine LdNC.mk g5 (cs := [.int .u64 oh, .int .u64 ol]) rfl rfl ?_
    refine StV.to g4 (v := wv oh ol) rfl (by decide) rfl (cs := #[.int .u64 oh, .int .u64 ol]) rfl fun W9 q49 hsz9 hf9 => ?_
    refine LdNC.mk q49 (cs := [.int .u64 oh, .int .u64 ol]) rfl rfl ?_
    rw [e, Int.emod_eq_of_lt hb.1 hb.2] at eo
    exact ⟨⟨oh, ol, rfl, o1, o2, eo⟩, (gf.trans' hf9 fun q hq _ => by omega).bel⟩)
end Go.Proofs.Ytcagnabglppenaa.Wd
