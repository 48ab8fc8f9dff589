/- Sorting items: insertion, reversal, the choice of a pivot. -/
import Derived.Test.YtcagnabglppenaaLc
import Derived.Test.YtcagnabglppenaaSo
namespace Go.Proofs.Ytcagnabglppenaa.Sr
open Go Go.RowKit Go.Vc Go.Proofs.Ytcagnabglppenaa.Fs

section
variable {α : Type} {enc : α → List Value} {el : TypeId} {cf : α → α → Int} {fv : Value} {blk lim cap : Nat} {inv : World → Prop}
abbrev ns (n : Nat) : Value := .int .i64 (n : Int)
abbrev rw' (blk n cap : Nat) : Value := .slice (some ⟨blk, 0, none⟩) n cap
theorem sub_w {a b : Nat} (h : a ≤ b) (hb : b < 1099511627776) : IntKind.i64.wrap ((b : Int) - (a : Int)) = ((b - a : Nat) : Int) := by rw [wrap_i64] <;> omega
theorem add_w {a b : Nat} (hb : a + b < 4398046511104) : IntKind.i64.wrap ((a : Int) + (b : Int)) = ((a + b : Nat) : Int) := by rw [wrap_i64] <;> omega
theorem pred_w {a : Nat} (h : 0 < a) (hb : a < 4398046511104) : IntKind.i64.wrap ((a : Int) - 1) = ((a - 1 : Nat) : Int) := by rw [wrap_i64] <;> omega
theorem succ_w {a : Nat} (hb : a < 4398046511104) : IntKind.i64.wrap ((a : Int) + 1) = ((a + 1 : Nat) : Int) := by rw [wrap_i64] <;> omega
theorem order2_gives (E : SE Try.prog enc 2 cf fv blk lim inv) {W : World} {d : List α} (h : SS enc 2 el blk lim cap inv W d) {j1 j2 : Nat} (h1 : j1 < d.length) (h2 : j2 < d.length) {s : Nat} {t : TypeId} {cnt : Int} (hs : W.heap[s]? = some (.cells #[.int .i64 cnt] t (0, 0))) (hsl : lim ≤ s) (hc : 0 ≤ cnt ∧ cnt < 1000) :
    Gives Try.prog 182 #[rw' blk d.length cap, ns j1, ns j2, .pointer (some ⟨s, 0, none⟩), fv] W fun v W' => ∃ k1 k2, v = .tuple #[ns k1, ns k2] ∧ ((k1 = j1 ∧ k2 = j2) ∨ (k1 = j2 ∧ k2 = j1)) ∧ SS enc 2 el blk lim cap inv W' d ∧ Fr (Tn blk lim) W W' ∧
      ∃ cnt', W'.heap[s]? = some (.cells #[.int .i64 cnt'] t (0, 0)) ∧ cnt ≤ cnt' ∧ cnt' ≤ cnt + 1 := F182_fn (by
  unfold F182
  have hx : d[j1]? = some d[j1] := List.getElem?_eq_getElem h1
  have hy : d[j2]? = some d[j2] := List.getElem?_eq_getElem h2
  have hslt := heap_lt hs
  refine h.read E rfl rfl hy ?_
  intro W1 hb1
  have h1' := h.below E hb1
  refine h1'.read E rfl rfl hx ?_
  have hs1 := belowAt hb1 hs
  refine (E.cmp W1 _ _ h1'.i).mono ?_ (fun _ _ h => h)
  rintro _ W2 ⟨rfl, hb2⟩
  refine AsI.mk ?_
  have h2' := h1'.below E hb2
  have hs2 := belowAt hb2 hs1
  have hf2 : Fr (Tn blk lim) W W2 := (frOf hb1).trans (frOf hb2)
  refine If.dec (fun _ => ?_) fun _ => ⟨j1, j2, rfl, .inl ⟨rfl, rfl⟩, h2', hf2, cnt, hs2, by omega, by omega⟩
  refine Ld1.mk hs2 rfl (AsI.mk ?_)
  refine StV.to1 hs2 rfl (show 0 < 1 by decide) rfl fun W3 hs3 _ hf3 => ?_
  have hf3' : Fr (fun b => lim ≤ b) W2 W3 := hf3.mono fun b _ e => by subst e; exact hsl
  refine ⟨j2, j1, rfl, .inr ⟨rfl, rfl⟩, h2'.other E hf3', hf2.trans (hf3'.mono fun _ _ h => .inr h), cnt + 1, ?_, by omega, by omega⟩
  rw [hs3, wrap_i64 (x := cnt + 1) (by omega) (by omega)]
  rfl)
theorem median_gives (E : SE Try.prog enc 2 cf fv blk lim inv) {W : World} {d : List α} (h : SS enc 2 el blk lim cap inv W d) {j1 j2 j3 : Nat} (h1 : j1 < d.length) (h2 : j2 < d.length) (h3 : j3 < d.length) {s : Nat} {t : TypeId} {cnt : Int} (hs : W.heap[s]? = some (.cells #[.int .i64 cnt] t (0, 0))) (hsl : lim ≤ s) (hc : 0 ≤ cnt ∧ cnt < 900) :
    Gives Try.prog 178 #[rw' blk d.length cap, ns j1, ns j2, ns j3, .pointer (some ⟨s, 0, none⟩), fv] W fun v W' => ∃ k : Nat, v = ns k ∧ (k = j1 ∨ k = j2 ∨ k = j3) ∧ SS enc 2 el blk lim cap inv W' d ∧ Fr (Tn blk lim) W W' ∧
      ∃ cnt', W'.heap[s]? = some (.cells #[.int .i64 cnt'] t (0, 0)) ∧ cnt ≤ cnt' ∧ cnt' ≤ cnt + 3 := F178_fn (by
  unfold F178
  refine CallK.mk (order2_gives E h h1 h2 hs hsl (by omega)) ?_
  rintro _ W1 ⟨a1, b1, rfl, hk1, hh1, hf1, c1, hs1, hc1⟩
  refine AsT2.mk (AsI.mk (AsI.mk ?_))
  refine CallK.mk (order2_gives E hh1 (j1 := b1) (j2 := j3) (by omega) h3 hs1 hsl (by omega)) ?_
  rintro _ W2 ⟨a2, b2, rfl, hk2, hh2, hf2, c2, hs2, hc2⟩
  refine AsT2.mk (AsI.mk (AsI.mk ?_))
  refine CallK.mk (order2_gives E hh2 (j1 := a1) (j2 := a2) (by omega) (by omega) hs2 hsl (by omega)) ?_
  rintro _ W3 ⟨a3, b3, rfl, hk3, hh3, hf3, c3, hs3, hc3⟩
  refine AsT2.mk (AsI.mk (AsI.mk ?_))
  exact ⟨b3, rfl, by omega, hh3, (hf1.trans hf2).trans hf3, c3, hs3, by omega, by omega⟩)
theorem medianAdj_gives (E : SE Try.prog enc 2 cf fv blk lim inv) {W : World} {d : List α} (h : SS enc 2 el blk lim cap inv W d) {j : Nat} (h0 : 0 < j) (h1 : j + 1 < d.length) (hd : d.length < 1099511627776) {s : Nat} {t : TypeId} {cnt : Int} (hs : W.heap[s]? = some (.cells #[.int .i64 cnt] t (0, 0))) (hsl : lim ≤ s) (hc : 0 ≤ cnt ∧ cnt < 900) :
    Gives Try.prog 177 #[rw' blk d.length cap, ns j, .pointer (some ⟨s, 0, none⟩), fv] W fun v W' => ∃ k : Nat, v = ns k ∧ (j - 1 ≤ k ∧ k ≤ j + 1) ∧ SS enc 2 el blk lim cap inv W' d ∧ Fr (Tn blk lim) W W' ∧
      ∃ cnt', W'.heap[s]? = some (.cells #[.int .i64 cnt'] t (0, 0)) ∧ cnt ≤ cnt' ∧ cnt' ≤ cnt + 3 := F177_fn (by
  unfold F177
  rw [pred_w h0 (by omega), succ_w (by omega)]
  refine CallK.mk (median_gives E h (j1 := j - 1) (j2 := j) (j3 := j + 1) (by omega) (by omega) h1 hs hsl hc) ?_
  rintro _ W1 ⟨k, rfl, hk, hh, hf, hcnt⟩
  exact AsI.mk ⟨k, rfl, by omega, hh, hf, hcnt⟩)
theorem pivot_gives (E : SE Try.prog enc 2 cf fv blk lim inv) {W : World} {d : List α} (h : SS enc 2 el blk lim cap inv W d) {a b : Nat} (hab : a + 12 < b) (hb : b ≤ d.length) (hd : d.length < 1099511627776) :
    Gives Try.prog 161 #[rw' blk d.length cap, ns a, ns b, fv] W fun v W' => ∃ (k : Nat) (hint : Int), v = .tuple #[ns k, .int .i64 hint] ∧ a ≤ k ∧ k < b ∧ SS enc 2 el blk lim cap inv W' d ∧ Fr (Tn blk lim) W W' := F161_fn (by
  unfold F161
  refine NewA.mk fun s W1 hs1 hse _ hb1 => ?_
  have hh1 := h.below E hb1
  have hsl : lim ≤ s := by have := h.lm; omega
  have e0 : IntKind.i64.wrap ((b : Int) - (a : Int)) = ((b - a : Nat) : Int) := sub_w (by omega) (by omega)
  rw [e0]
  have e1 : IntKind.i64.wrap ((((b - a : Nat) : Int)).tdiv 4) = (((b - a) / 4 : Nat) : Int) := by
    have : (((b - a : Nat) : Int)).tdiv 4 = (((b - a) / 4 : Nat) : Int) := rfl
    rw [this, wrap_i64] <;> omega
  rw [e1]
  generalize hq : (b - a) / 4 = q
  have m1 : IntKind.i64.wrap ((q : Int) * 1) = ((q : Nat) : Int) := by rw [wrap_i64] <;> omega
  have m2 : IntKind.i64.wrap ((q : Int) * 2) = ((2 * q : Nat) : Int) := by rw [wrap_i64] <;> omega
  have m3 : IntKind.i64.wrap ((q : Int) * 3) = ((3 * q : Nat) : Int) := by rw [wrap_i64] <;> omega
  rw [m1, m2, m3, add_w (a := a) (b := q) (by omega), add_w (a := a) (b := 2 * q) (by omega), add_w (a := a) (b := 3 * q) (by omega)]
  have f1 : Fr (Tn blk lim) W W1 := frOf hb1
  refine ⟨by decide, by decide, by decide, ?_⟩
  refine Join.use fun J hJ => ?_
  refine If.dec (fun _ => ?_) fun hn => absurd (show (((b - a : Nat) : Int)) ≥ 8 by omega) hn
  refine Join.use fun J1 hJ1 => ?_
  have fin : ∀ (i j k : Nat) W2 (cnt : Int), SS enc 2 el blk lim cap inv W2 d → Fr (Tn blk lim) W W2 → W2.heap[s]? = some (.cells #[.int .i64 cnt] 3 (0, 0)) → 0 ≤ cnt → cnt < 900 → a ≤ i → i < b → a ≤ j → j < b → a ≤ k → k < b → J1 (i : Int) (j : Int) (k : Int) W2 := by
    intro i j k W2 cnt h2 f2 hs2 hc1 hc2 hi1 hi2 hj1 hj2 hk1 hk2
    rw [hJ1]
    refine CallK.mk (median_gives E h2 (j1 := i) (j2 := j) (j3 := k) (by omega) (by omega) (by omega) hs2 hsl ⟨hc1, hc2⟩) ?_
    rintro _ W3 ⟨m, rfl, hm, h3, f3, c3, hs3, _⟩
    refine AsI.mk ?_
    rw [hJ]
    refine Ld1.mk hs3 rfl (AsI.mk ?_)
    have f := f2.trans f3
    exact If.beq (fun _ => ⟨m, 1, rfl, by omega, by omega, h3, f⟩) fun _ => If.beq (fun _ => ⟨m, 2, rfl, by omega, by omega, h3, f⟩) fun _ => ⟨m, 0, rfl, by omega, by omega, h3, f⟩
  refine If.dec (fun h50 => ?_) fun _ => fin _ _ _ W1 0 hh1 f1 hs1 (by omega) (by omega) (by omega) (by omega) (by omega) (by omega) (by omega) (by omega)
  refine CallK.mk (medianAdj_gives E hh1 (j := a + q) (by omega) (by omega) hd hs1 hsl (by omega)) ?_
  rintro _ W2 ⟨k1, rfl, hk1, h2, f2, c2, hs2, hc2⟩
  refine AsI.mk ?_
  refine CallK.mk (medianAdj_gives E h2 (j := a + 2 * q) (by omega) (by omega) hd hs2 hsl (by omega)) ?_
  rintro _ W3 ⟨k2, rfl, hk2, h3, f3, c3, hs3, hc3⟩
  refine AsI.mk ?_
  refine CallK.mk (medianAdj_gives E h3 (j := a + 3 * q) (by omega) (by omega) hd hs3 hsl (by omega)) ?_
  rintro _ W4 ⟨k3, rfl, hk3, h4, f4, c4, hs4, hc4⟩
  refine AsI.mk ?_
  exact fin k1 k2 k3 W4 c4 h4 (((f1.trans f2).trans f3).trans f4) hs4 (by omega) (by omega) (by omega) (by omega) (by omega) (by omega) (by omega) (by omega))
theorem reverse_gives (E : SE Try.prog enc 2 cf fv blk lim inv) {W : World} {d : List α} (h : SS enc 2 el blk lim cap inv W d) {a b : Nat} (hab : a < b) (hb : b ≤ d.length) (hd : d.length < 1099511627776) :
    Gives Try.prog 162 #[rw' blk d.length cap, ns a, ns b, fv] W fun v W' => v = .tuple #[] ∧ ∃ d', SS enc 2 el blk lim cap inv W' d' ∧ Sw a b d d' ∧ Fr (Tn blk lim) W W' := F162_fn (by
  unfold F162
  rw [pred_w (by omega) (by omega)]
  refine Lp.i2 (fun i j W' => ∃ (p q : Nat) (d' : List α), i = (p : Int) ∧ j = (q : Int) ∧ SS enc 2 el blk lim cap inv W' d' ∧ Sw a b d d' ∧ Fr (Tn blk lim) W W' ∧ a ≤ p ∧ q < b) (fun i j _ => (j - i).toNat)
    ⟨a, b - 1, d, rfl, rfl, h, .refl, Fr.refl _ _, by omega, by omega⟩ ?_
  rintro _ _ W1 k ⟨p, q, d', rfl, rfl, h1, hsw, f1, hp, hq⟩ hk
  refine AsI.mk (AsI.mk (If.dec (fun hlt => ?_) fun _ => ⟨rfl, d', h1, hsw, f1⟩))
  have hl := hsw.len
  refine h1.swap E hl.symm rfl rfl (j1 := p) (j2 := q) (List.getElem?_eq_getElem (by omega)) (List.getElem?_eq_getElem (by omega)) fun W2 h2 f2 => ?_
  rw [succ_w (by omega), pred_w (by omega) (by omega)]
  exact hk _ _ _ ⟨p + 1, q - 1, _, rfl, rfl, h2, hsw.step hp (by omega) (by omega) hq (List.getElem?_eq_getElem (by omega)) (List.getElem?_eq_getElem (by omega)), f1.trans f2, by omega, by omega⟩ (by omega))
end
end Go.Proofs.Ytcagnabglppenaa.Sr
