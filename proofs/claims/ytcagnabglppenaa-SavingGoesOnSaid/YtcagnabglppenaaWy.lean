/- Sums of 128 bits: the walks of Bits and Add. -/
import Derived.Test.YtcagnabglppenaaWx
namespace Go.Proofs.Ytcagnabglppenaa.Wd
open Go Go.RowKit Go.Vc Go.Proofs.Ytcagnabglppenaa.Fs Go.Proofs.Ytcagnabglppenaa.Px Go.Proofs.Ytcagnabglppenaa.Sv

def bt (hi lo : Int) (j : Nat) : Int := if j < 64 then bit hi (63 - j) else bit lo (127 - j)
theorem bt_01 (hi lo : Int) (j : Nat) : bt hi lo j = 0 ∨ bt hi lo j = 1 := by unfold bt; split <;> exact bit_01 _ _
def btI (hi lo : Int) (i j : Nat) : Int := if j < 64 then (if 63 - j < i then bit hi (63 - j) else 0) else if 127 - j < i then bit lo (127 - j) else 0
theorem ld_barr {W : World} {b : Nat} {t : TypeId} {f : Nat → Int} {k : List Value → Prop} (h : W.heap[b]? = some (.cells (barr f) t (0, 0))) (hk : k (barr f).toList) : LdNC W ⟨b, 0, none⟩ 128 k :=
  LdNC.mk h (by simp [barr]) (by rw [List.drop_zero, List.take_of_length_le (by simp [barr])]) hk
theorem st_barr {W : World} {b : Nat} {t : TypeId} {f g : Nat → Int} {k : World → Prop} (h : W.heap[b]? = some (.cells (barr g) t (0, 0))) (hk : ∀ W', W'.heap[b]? = some (.cells (barr f) t (0, 0)) → W'.heap.size = W.heap.size → Fr (fun x => x = b) W W' → k W') : StV 128 W ⟨b, 0, none⟩ (.agg (barr f)) k := by
  refine StV.to h (by simp [Value.cells, barr]) (by simp [barr]) ?_ (cs := barr f) ?_ hk
  · rw [List.all_eq_true]
    intro x hx
    have : x ∈ (barr f).toList := hx
    simp only [barr, List.mem_map] at this
    obtain ⟨j, _, rfl⟩ := this
    rfl
  · show ((barr g).toList.take 0 ++ (barr f).toList ++ (barr g).toList.drop (0 + 128)).toArray = barr f
    rw [List.take_zero, List.nil_append, List.drop_eq_nil_of_le (by simp [barr]), List.append_nil]
theorem bits_gives' {W : World} {hi lo : Int} (h1 : 0 ≤ hi ∧ hi < 18446744073709551616) (h2 : 0 ≤ lo ∧ lo < 18446744073709551616) :
    Gives Try.prog 121 #[wv hi lo] W fun v W' => v = .agg (barr (bt hi lo)) ∧ Below W.heap.size W W' := F121_fn (by
  unfold F121
  refine NewA.mk fun b1 W1 g1 hb1 hsz1 hbl1 => NewA.mk fun b2 W2 g2 hb2 hsz2 hbl2 => NewA.mk fun b3 W3 g3 hb3 hsz3 hbl3 => ?_
  have z1 := hbl1.size; have z2 := hbl2.size; have z3 := hbl3.size
  have B3 := (hbl1.trans (hbl2.mono z1)).trans (hbl3.mono (by omega))
  refine Lp.i1 (fun s W' => ∃ i : Nat, s = (i : Int) ∧ i ≤ 64 ∧ W'.heap[b1]? = some (.cells #[.int .u64 (hi / 2 ^ i), .int .u64 (lo / 2 ^ i)] 135 (0, 0)) ∧ W'.heap[b2]? = some (.cells (barr fun _ => 0) 174 (0, 0)) ∧ W'.heap[b3]? = some (.cells (barr (btI hi lo i)) 174 (0, 0)) ∧ Fr (fun q => W.heap.size ≤ q) W W')
    (fun s _ => (100 - s).toNat) ⟨0, rfl, by omega, by simpa [wv] using belowAt hbl3 (belowAt hbl2 g1), belowAt hbl3 g2, ?_, frOf B3⟩ ?_
  · have : barr (btI hi lo 0) = barr fun _ => 0 := barr_congr fun j _ => by unfold btI; simp
    rw [this]; exact g3
  rintro s W4 k ⟨i, rfl, hi64, q1, q2, q3, qf⟩ hk
  refine ⟨_, rfl, If.dec (fun hlt => ?_) fun hge => ?_⟩
  · have hp0 : ∀ x : Int, 0 ≤ x → 0 ≤ x / 2 ^ i := fun x hx => Int.ediv_nonneg hx (Int.pow_nonneg (by decide))
    have hp1 : ∀ x : Int, 0 ≤ x → x / 2 ^ i ≤ x := fun x hx => Int.ediv_le_self _ hx
    have e63 : IntKind.i64.wrap (63 - (i : Int)) = ((63 - i : Nat) : Int) := by rw [wrap_i64] <;> omega
    have e127 : IntKind.i64.wrap (127 - (i : Int)) = ((127 - i : Nat) : Int) := by rw [wrap_i64] <;> omega
    have hstep : ∀ x : Int, x / 2 ^ (i + 1) = x / 2 ^ i / 2 := fun x => by rw [Int.pow_succ, Int.ediv_ediv_of_nonneg (Int.pow_nonneg (by decide))]
    have hh0 := hp0 hi h1.1; have hl0 := hp0 lo h2.1; have hh1 := hp1 hi h1.1; have hl1 := hp1 lo h2.1
    have th : (hi / 2 ^ i).tmod 2 = bit hi i := Int.tmod_eq_emod_of_nonneg hh0
    have tl : (lo / 2 ^ i).tmod 2 = bit lo i := Int.tmod_eq_emod_of_nonneg hl0
    have dh : (hi / 2 ^ i).tdiv 2 = hi / 2 ^ (i + 1) := by rw [hstep]; exact Int.tdiv_eq_ediv_of_nonneg hh0
    have dl : (lo / 2 ^ i).tdiv 2 = lo / 2 ^ (i + 1) := by rw [hstep]; exact Int.tdiv_eq_ediv_of_nonneg hl0
    have b1lt := heap_lt q1; have b2lt := heap_lt q2; have b3lt := heap_lt q3; have zf := qf.size
    refine Ld1.mk q1 (u := .int .u64 (hi / 2 ^ i)) rfl ⟨_, rfl, by decide, ?_⟩
    rw [e63, th]
    refine Px.IdxA.mk (j := 63 - i) rfl (by omega) ?_
    refine StV.ad1 q3 (v := .int .u64 (bit hi i)) rfl (by rw [barr_size]; omega) rfl fun W5 q35 hsz5 hf5 => ?_
    rw [barr_set _ (by omega)] at q35
    have q15 := hf5.at (by omega) q1
    refine Ld1.ad q15 (u := .int .u64 (lo / 2 ^ i)) rfl ⟨_, rfl, by decide, ?_⟩
    rw [e127, tl]
    refine Px.IdxA.mk (j := 127 - i) rfl (by omega) ?_
    refine StV.ad1 q35 (v := .int .u64 (bit lo i)) rfl (by rw [barr_size]; omega) rfl fun W6 q36 hsz6 hf6 => ?_
    rw [barr_set _ (by omega)] at q36
    have q16 := hf6.at (by omega) q15
    refine Ld1.mk q16 (u := .int .u64 (hi / 2 ^ i)) rfl ⟨_, rfl, by decide, ?_⟩
    refine Ld1.ad q16 (u := .int .u64 (lo / 2 ^ i)) rfl ⟨_, rfl, by decide, ?_⟩
    have u1 := hstep hi; have u2 := hstep lo
    rw [dh, dl, wrap_u64 (x := hi / 2 ^ (i + 1)) (by omega) (by omega)]
    refine StV.to1 q16 (v := .int .u64 (hi / 2 ^ (i + 1))) rfl (show 0 < 2 by decide) rfl fun W7 q17 hsz7 hf7 => ?_
    rw [wrap_u64 (x := lo / 2 ^ (i + 1)) (by omega) (by omega)]
    refine StV.ad1 q17 (v := .int .u64 (lo / 2 ^ (i + 1))) rfl (show 0 + 1 < 2 by decide) rfl fun W8 q18 hsz8 hf8 => ?_
    show k [.int .i64 (IntKind.i64.wrap ((i : Int) + 1))] W8
    rw [nsucc (by omega)]
    refine hk _ W8 ⟨i + 1, rfl, by omega, q18, hf8.at (by omega) (hf7.at (by omega) (hf6.at (by omega) (hf5.at (by omega) q2))), ?_, (((qf.trans' hf5 fun q hq _ => by omega).trans' hf6 fun q hq _ => by omega).trans' hf7 fun q hq _ => by omega).trans' hf8 fun q hq _ => by omega⟩ (by omega)
    refine (hf8.at (by omega) (hf7.at (by omega) q36)).trans ?_
    congr 2
    refine barr_congr fun j hj => ?_
    by_cases c1 : j = 127 - i
    · subst c1
      rw [if_pos rfl]
      unfold btI
      rw [if_neg (by omega), if_pos (by omega), show 127 - (127 - i) = i by omega]
    · rw [if_neg c1]
      by_cases c2 : j = 63 - i
      · subst c2
        rw [if_pos rfl]
        unfold btI
        rw [if_pos (by omega), if_pos (by omega), show 63 - (63 - i) = i by omega]
      · rw [if_neg c2]
        unfold btI
        by_cases c3 : j < 64
        · rw [if_pos c3, if_pos c3]
          by_cases c4 : 63 - j < i
          · rw [if_pos c4, if_pos (by omega)]
          · rw [if_neg c4, if_neg (by omega)]
        · rw [if_neg c3, if_neg c3]
          by_cases c4 : 127 - j < i
          · rw [if_pos c4, if_pos (by omega)]
          · rw [if_neg c4, if_neg (by omega)]
  · have : i = 64 := by omega
    subst this
    have b1lt := heap_lt q1; have b2lt := heap_lt q2; have b3lt := heap_lt q3; have zf := qf.size
    refine ld_barr q3 ?_
    have e : ((barr (btI hi lo 64)).toList).toArray = barr (bt hi lo) := by
      rw [Array.toArray_toList]
      refine barr_congr fun j hj => ?_
      unfold btI bt
      by_cases c : j < 64
      · rw [if_pos c, if_pos c, if_pos (by omega)]
      · rw [if_neg c, if_neg c, if_pos (by omega)]
    rw [e]
    refine st_barr q2 fun W5 q25 hsz5 hf5 => ?_
    refine ld_barr q25 ?_
    refine ⟨by rw [Array.toArray_toList], (qf.trans' hf5 fun q hq _ => by omega).bel⟩)
end Go.Proofs.Ytcagnabglppenaa.Wd
