/- Sums of 128 bits: the walks of Bits, Of, atMost. -/
import Derived.Test.YtcagnabglppenaaWw
namespace Go.Proofs.Ytcagnabglppenaa.Wd
open Go Go.RowKit Go.Vc Go.Proofs.Ytcagnabglppenaa.Fs Go.Proofs.Ytcagnabglppenaa.Px Go.Proofs.Ytcagnabglppenaa.Sv

theorem p64 : ∀ k : Nat, k ≤ 64 → (2 : Int) ^ k ≤ 18446744073709551616 := by decide +kernel
def barr (f : Nat → Int) : Array Value := ((List.range 128).map fun j => Value.int .u64 (f j)).toArray
theorem barr_get (f : Nat → Int) {j : Nat} (h : j < 128) : (barr f)[0 + j * 1]? = some (.int .u64 (f j)) := by simp [barr, h]
theorem barr_set (f : Nat → Int) {m : Nat} (h : m < 128) (v : Int) : (barr f).setIfInBounds (0 + m * 1) (.int .u64 v) = barr fun j => if j = m then v else f j := by
  unfold barr
  rw [List.setIfInBounds_toArray]
  congr 1
  apply List.ext_getElem?
  intro i
  rw [List.getElem?_set]
  by_cases e : 0 + m * 1 = i
  · have : m = i := by omega
    subst this
    simp [h]
  · have : ¬ i = m := by omega
    rw [if_neg e]
    simp only [List.getElem?_map]
    rcases Nat.lt_or_ge i 128 with hi | hi
    · simp [hi, this]
    · rw [List.getElem?_eq_none (by simpa using hi)]; rfl
theorem barr_size (f : Nat → Int) : (barr f).size = 128 := by simp [barr]
theorem barr_congr {f g : Nat → Int} (h : ∀ j, j < 128 → f j = g j) : barr f = barr g := by
  unfold barr
  congr 1
  exact List.map_congr_left fun j hj => by rw [h j (List.mem_range.1 hj)]
def wv (hi lo : Int) : Value := .agg #[.int .u64 hi, .int .u64 lo]
theorem atMost_gives {W : World} (hi lo n : Int) : Gives Try.prog 93 #[wv hi lo, .int .u64 n] W fun v W' => v = .bool (decide (hi = 0 ∧ lo ≤ n)) ∧ Below W.heap.size W W' := F93_fn (by
  unfold F93
  refine NewA.mk fun b W1 h1 hb1 hsz1 hbl1 => ?_
  refine Ld1.mk h1 (u := .int .u64 hi) rfl ⟨_, rfl, Join.use fun J hJ => If.beq (fun h => ?_) fun h => ?_⟩
  · refine Ld1.ad h1 (u := .int .u64 lo) rfl ⟨_, rfl, ?_⟩
    rw [hJ]
    refine ⟨?_, hbl1⟩
    simp [h]
  · rw [hJ]
    refine ⟨?_, hbl1⟩
    simp [h])
theorem of_gives' {W : World} {f : Nat → Int} (hf : ∀ j, f j = 0 ∨ f j = 1) : Gives Try.prog 122 #[.agg (barr f)] W fun v W' => v = wv (num f 64) (num (fun j => f (64 + j)) 64) ∧ Below W.heap.size W W' := F122_fn (by
  unfold F122
  refine NewA.mk fun b1 W1 h1 hb1 hsz1 hbl1 => NewA.mk fun b2 W2 h2 hb2 hsz2 hbl2 => ?_
  refine ⟨trivial, ?_⟩
  refine NewA.mk fun b3 W3 h3 hb3 hsz3 hbl3 => ?_
  refine StV.to h3 (v := wv 0 0) rfl (by decide) rfl (cs := #[.int .u64 0, .int .u64 0]) rfl fun W4 h34 hsz4 hf4 => ?_
  have z1 := hbl1.size; have z2 := hbl2.size; have z3 := hbl3.size
  have B3 := (hbl1.trans (hbl2.mono z1)).trans (hbl3.mono (by omega))
  have f04 : Fr (fun q => W.heap.size ≤ q) W W4 := (frOf (S := fun q => W.heap.size ≤ q) B3).trans' hf4 fun q hq _ => by omega
  have h14 := hf4.at (by omega) (belowAt hbl3 (belowAt hbl2 h1))
  have h24 := hf4.at (by omega) (belowAt hbl3 h2)
  refine Lp.i1 (fun s W' => ∃ i : Nat, s = (i : Int) ∧ i ≤ 64 ∧ W'.heap[b1]? = some (.cells (barr f) 174 (0, 0)) ∧ W'.heap[b2]? = some (.cells #[.int .u64 0, .int .u64 0] 135 (0, 0)) ∧ W'.heap[b3]? = some (.cells #[.int .u64 (num f i), .int .u64 (num (fun j => f (64 + j)) i)] 135 (0, 0)) ∧ Fr (fun q => W.heap.size ≤ q) W W')
    (fun s _ => (100 - s).toNat) ⟨0, rfl, by omega, h14, h24, h34, f04⟩ ?_
  rintro s W5 k ⟨i, rfl, hi, g1, g2, g3, gf⟩ hk
  refine ⟨_, rfl, If.dec (fun hlt => ?_) fun hge => ?_⟩
  · have hb := num_bits hf (i + 1)
    have hg := num_bits (f := fun j => f (64 + j)) (fun j => hf _) (i + 1)
    have hp := p64 (i + 1) (by omega)
    have hb0 := num_bits hf i
    have hg0 := num_bits (f := fun j => f (64 + j)) (fun j => hf _) i
    simp only [num] at hb hg
    have hfi := hf i
    have hgi := hf (64 + i)
    refine Ld1.mk g3 (u := .int .u64 (num f i)) rfl ⟨_, rfl, ?_⟩
    intro W6 hb6
    refine Px.IdxA.mk (j := i) rfl (by omega) (Ld1.ad (belowAt hb6 g1) (barr_get f (by omega)) ⟨_, rfl, ?_⟩)
    dsimp only
    rw [wrap_u64 (x := 2 * num f i) (by omega) (by omega), wrap_u64 (x := 2 * num f i + f i) (by omega) (by omega)]
    refine StV.to1 (belowAt hb6 g3) (v := .int .u64 (2 * num f i + f i)) rfl (show 0 < 2 by decide) rfl fun W7 h37 hsz7 hf7 => ?_
    have z5 := hb6.size; have zg := gf.size
    have b1lt := heap_lt g1; have b2lt := heap_lt g2; have b3lt := heap_lt g3
    have h17 := hf7.at (by omega) (belowAt hb6 g1)
    have h27 := hf7.at (by omega) (belowAt hb6 g2)
    refine Ld1.ad h37 (u := .int .u64 (num (fun j => f (64 + j)) i)) rfl ⟨_, rfl, ?_⟩
    intro W8 hb8
    have ew : IntKind.i64.wrap (64 + (i : Int)) = ((64 + i : Nat) : Int) := by rw [wrap_i64] <;> omega
    rw [ew]
    refine Px.IdxA.mk (j := 64 + i) rfl (by omega) (Ld1.ad (belowAt hb8 h17) (barr_get f (by omega)) ⟨_, rfl, ?_⟩)
    dsimp only
    rw [wrap_u64 (x := 2 * num (fun j => f (64 + j)) i) (by omega) (by omega), wrap_u64 (x := 2 * num (fun j => f (64 + j)) i + f (64 + i)) (by omega) (by omega)]
    refine StV.ad1 (belowAt hb8 h37) (v := .int .u64 (2 * num (fun j => f (64 + j)) i + f (64 + i))) rfl (show 0 + 1 < 2 by decide) rfl fun W9 h39 hsz9 hf9 => ?_
    have z8 := hb8.size; have z7 := hf7.size
    show k [.int .i64 (IntKind.i64.wrap ((i : Int) + 1))] W9
    rw [nsucc (by omega)]
    exact hk _ W9 ⟨i + 1, rfl, by omega, hf9.at (by omega) (belowAt hb8 h17), hf9.at (by omega) (belowAt hb8 h27), h39, (((gf.trans (frOf hb6)).trans' hf7 fun q hq _ => by omega).trans (frOf hb8)).trans' hf9 fun q hq _ => by omega⟩ (by omega)
  · have : i = 64 := by omega
    subst this
    refine LdNC.mk g3 (cs := [.int .u64 (num f 64), .int .u64 (num (fun j => f (64 + j)) 64)]) rfl rfl ?_
    refine StV.to g2 (v := wv (num f 64) (num (fun j => f (64 + j)) 64)) rfl (by decide) rfl (cs := #[.int .u64 (num f 64), .int .u64 (num (fun j => f (64 + j)) 64)]) rfl fun W6 h26 hsz6 hf6 => ?_
    refine LdNC.mk h26 (cs := [.int .u64 (num f 64), .int .u64 (num (fun j => f (64 + j)) 64)]) rfl rfl ?_
    exact ⟨rfl, (gf.trans' hf6 fun q hq _ => by omega).bel⟩)
end Go.Proofs.Ytcagnabglppenaa.Wd
