/- Sorting counts. -/
import Derived.Test.YtdfaocbpghjboaaLa
import Derived.Test.YtdfaocbpghjboaaCo
import Derived.Test.YtdfaocbpghjboaaCx
namespace Go.Proofs.Ytdfaocbpghjboaa.SrC
open Go Go.RowKit Go.Vc Go.Proofs.Ytdfaocbpghjboaa.Fs

section
variable {α : Type} {enc : α → List Value} {el : TypeId} {cf : α → α → Int} {fv : Value} {blk lim cap : Nat} {inv : World → Prop}
abbrev ns (n : Nat) : Value := .int .i64 (n : Int)
abbrev rw' (blk n cap : Nat) : Value := .slice (some ⟨blk, 0, none⟩) n cap
theorem sub_w {a b : Nat} (h : a ≤ b) (hb : b < 1099511627776) : IntKind.i64.wrap ((b : Int) - (a : Int)) = ((b - a : Nat) : Int) := by rw [wrap_i64] <;> omega
theorem add_w {a b : Nat} (hb : a + b < 4398046511104) : IntKind.i64.wrap ((a : Int) + (b : Int)) = ((a + b : Nat) : Int) := by rw [wrap_i64] <;> omega
theorem pred_w {a : Nat} (h : 0 < a) (hb : a < 4398046511104) : IntKind.i64.wrap ((a : Int) - 1) = ((a - 1 : Nat) : Int) := by rw [wrap_i64] <;> omega
theorem succ_w {a : Nat} (hb : a < 4398046511104) : IntKind.i64.wrap ((a : Int) + 1) = ((a + 1 : Nat) : Int) := by rw [wrap_i64] <;> omega
theorem order2_gives (E : SE Try.prog enc 2 cf fv blk lim inv) {W : World} {d : List α} (h : SS enc 2 el blk lim cap inv W d) {j1 j2 : Nat} (h1 : j1 < d.length) (h2 : j2 < d.length) {s : Nat} {t : TypeId} {cnt : Int} (hs : W.heap[s]? = some (.cells #[.int .i64 cnt] t (0, 0))) (hsl : lim ≤ s) (hc : 0 ≤ cnt ∧ cnt < 1000) :
    Gives Try.prog 66 #[rw' blk d.length cap, ns j1, ns j2, .pointer (some ⟨s, 0, none⟩), fv] W fun v W' => ∃ k1 k2, v = .tuple #[ns k1, ns k2] ∧ ((k1 = j1 ∧ k2 = j2) ∨ (k1 = j2 ∧ k2 = j1)) ∧ SS enc 2 el blk lim cap inv W' d ∧ Fr (Tn blk lim) W W' ∧
      ∃ cnt', W'.heap[s]? = some (.cells #[.int .i64 cnt'] t (0, 0)) ∧ cnt ≤ cnt' ∧ cnt' ≤ cnt + 1 := F66_fn (by
  unfold F66
  have hx : d[j1]? = some d[j1] := List.getElem?_eq_getElem h1
  have hy : d[j2]? = some d[j2] := List.getElem?_eq_getElem h2
  have hslt := heap_lt hs
  refine h.read E rfl rfl hy ?_
  intro W1 hb1
  have h1' := h.below E hb1
  refine h1'.read E rfl rfl hx ?_
  have hs1 := belowAt hb1 hs
  refine (E.cmp W1 _ _ h1'.i).mono ?_ (fun _ _ h => h)
  rintro _ W2 ⟨rfl, hb2⟩
  refine AsI.mk ?_
  have h2' := h1'.below E hb2
  have hs2 := belowAt hb2 hs1
  have hf2 : Fr (Tn blk lim) W W2 := (frOf hb1).trans (frOf hb2)
  refine If.dec (fun _ => ?_) fun _ => ⟨j1, j2, rfl, .inl ⟨rfl, rfl⟩, h2', hf2, cnt, hs2, by omega, by omega⟩
  refine Ld1.mk hs2 rfl (AsI.mk ?_)
  refine StV.to1 hs2 rfl (show 0 < 1 by decide) rfl fun W3 hs3 _ hf3 => ?_
  have hf3' : Fr (fun b => lim ≤ b) W2 W3 := hf3.mono fun b _ e => by subst e; exact hsl
  refine ⟨j2, j1, rfl, .inr ⟨rfl, rfl⟩, h2'.other E hf3', hf2.trans (hf3'.mono fun _ _ h => .inr h), cnt + 1, ?_, by omega, by omega⟩
  rw [hs3, wrap_i64 (x := cnt + 1) (by omega) (by omega)]
  rfl)
theorem median_gives (E : SE Try.prog enc 2 cf fv blk lim inv) {W : World} {d : List α} (h : SS enc 2 el blk lim cap inv W d) {j1 j2 j3 : Nat} (h1 : j1 < d.length) (h2 : j2 < d.length) (h3 : j3 < d.length) {s : Nat} {t : TypeId} {cnt : Int} (hs : W.heap[s]? = some (.cells #[.int .i64 cnt] t (0, 0))) (hsl : lim ≤ s) (hc : 0 ≤ cnt ∧ cnt < 900) :
    Gives Try.prog 65 #[rw' blk d.length cap, ns j1, ns j2, ns j3, .pointer (some ⟨s, 0, none⟩), fv] W fun v W' => ∃ k : Nat, v = ns k ∧ (k = j1 ∨ k = j2 ∨ k = j3) ∧ SS enc 2 el blk lim cap inv W' d ∧ Fr (Tn blk lim) W W' ∧
      ∃ cnt', W'.heap[s]? = some (.cells #[.int .i64 cnt'] t (0, 0)) ∧ cnt ≤ cnt' ∧ cnt' ≤ cnt + 3 := F65_fn (by
  unfold F65
  refine CallK.mk (order2_gives E h h1 h2 hs hsl (by omega)) ?_
  rintro _ W1 ⟨a1, b1, rfl, hk1, hh1, hf1, c1, hs1, hc1⟩
  refine AsT2.mk (AsI.mk (AsI.mk ?_))
  refine CallK.mk (order2_gives E hh1 (j1 := b1) (j2 := j3) (by omega) h3 hs1 hsl (by omega)) ?_
  rintro _ W2 ⟨a2, b2, rfl, hk2, hh2, hf2, c2, hs2, hc2⟩
  refine AsT2.mk (AsI.mk (AsI.mk ?_))
  refine CallK.mk (order2_gives E hh2 (j1 := a1) (j2 := a2) (by omega) (by omega) hs2 hsl (by omega)) ?_
  rintro _ W3 ⟨a3, b3, rfl, hk3, hh3, hf3, c3, hs3, hc3⟩
  refine AsT2.mk (AsI.mk (AsI.mk ?_))
  exact ⟨b3, rfl, by omega, hh3, (hf1.trans hf2).trans hf3, c3, hs3, by omega, by omega⟩)
theorem medianAdj_gives (E : SE Try.prog enc 2 cf fv blk lim inv) {W : World} {d : List α} (h : SS enc 2 el blk lim cap inv W d) {j : Nat} (h0 : 0 < j) (h1 : j + 1 < d.length) (hd : d.length < 1099511627776) {s : Nat} {t : TypeId} {cnt : Int} (hs : W.heap[s]? = some (.cells #[.int .i64 cnt] t (0, 0))) (hsl : lim ≤ s) (hc : 0 ≤ cnt ∧ cnt < 900) :
    Gives Try.prog 64 #[rw' blk d.length cap, ns j, .pointer (some ⟨s, 0, none⟩), fv] W fun v W' => ∃ k : Nat, v = ns k ∧ (j - 1 ≤ k ∧ k ≤ j + 1) ∧ SS enc 2 el blk lim cap inv W' d ∧ Fr (Tn blk lim) W W' ∧
      ∃ cnt', W'.heap[s]? = some (.cells #[.int .i64 cnt'] t (0, 0)) ∧ cnt ≤ cnt' ∧ cnt' ≤ cnt + 3 := F64_fn (by
  unfold F64
  rw [pred_w h0 (by omega), succ_w (by omega)]
  refine CallK.mk (median_gives E h (j1 := j - 1) (j2 := j) (j3 := j + 1) (by omega) (by omega) h1 hs hsl hc) ?_
  rintro _ W1 ⟨k, rfl, hk, hh, hf, hcnt⟩
  exact AsI.mk ⟨k, rfl, by omega, hh, hf, hcnt⟩)
theorem pivot_gives (E : SE Try.prog enc 2 cf fv blk lim inv) {W : World} {d : List α} (h : SS enc 2 el blk lim cap inv W d) {a b : Nat} (hab : a + 12 < b) (hb : b ≤ d.length) (hd : d.length < 1099511627776) :
    Gives Try.prog 54 #[rw' blk d.length cap, ns a, ns b, fv] W fun v W' => ∃ (k : Nat) (hint : Int), v = .tuple #[ns k, .int .i64 hint] ∧ a ≤ k ∧ k < b ∧ SS enc 2 el blk lim cap inv W' d ∧ Fr (Tn blk lim) W W' := F54_fn (by
  unfold F54
  refine NewA.mk fun s W1 hs1 hse _ hb1 => ?_
  have hh1 := h.below E hb1
  have hsl : lim ≤ s := by have := h.lm; omega
  have e0 : IntKind.i64.wrap ((b : Int) - (a : Int)) = ((b - a : Nat) : Int) := sub_w (by omega) (by omega)
  rw [e0]
  have e1 : IntKind.i64.wrap ((((b - a : Nat) : Int)).tdiv 4) = (((b - a) / 4 : Nat) : Int) := by
    have : (((b - a : Nat) : Int)).tdiv 4 = (((b - a) / 4 : Nat) : Int) := rfl
    rw [this, wrap_i64] <;> omega
  rw [e1]
  generalize hq : (b - a) / 4 = q
  have m1 : IntKind.i64.wrap ((q : Int) * 1) = ((q : Nat) : Int) := by rw [wrap_i64] <;> omega
  have m2 : IntKind.i64.wrap ((q : Int) * 2) = ((2 * q : Nat) : Int) := by rw [wrap_i64] <;> omega
  have m3 : IntKind.i64.wrap ((q : Int) * 3) = ((3 * q : Nat) : Int) := by rw [wrap_i64] <;> omega
  rw [m1, m2, m3, add_w (a := a) (b := q) (by omega), add_w (a := a) (b := 2 * q) (by omega), add_w (a := a) (b := 3 * q) (by omega)]
  have f1 : Fr (Tn blk lim) W W1 := frOf hb1
  refine ⟨by decide, by decide, by decide, ?_⟩
  refine Join.use fun J hJ => ?_
  refine If.dec (fun _ => ?_) fun hn => absurd (show (((b - a : Nat) : Int)) ≥ 8 by omega) hn
  refine Join.use fun J1 hJ1 => ?_
  have fin : ∀ (i j k : Nat) W2 (cnt : Int), SS enc 2 el blk lim cap inv W2 d → Fr (Tn blk lim) W W2 → W2.heap[s]? = some (.cells #[.int .i64 cnt] 3 (0, 0)) → 0 ≤ cnt → cnt < 900 → a ≤ i → i < b → a ≤ j → j < b → a ≤ k → k < b → J1 (i : Int) (j : Int) (k : Int) W2 := by
    intro i j k W2 cnt h2 f2 hs2 hc1 hc2 hi1 hi2 hj1 hj2 hk1 hk2
    rw [hJ1]
    refine CallK.mk (median_gives E h2 (j1 := i) (j2 := j) (j3 := k) (by omega) (by omega) (by omega) hs2 hsl ⟨hc1, hc2⟩) ?_
    rintro _ W3 ⟨m, rfl, hm, h3, f3, c3, hs3, _⟩
    refine AsI.mk ?_
    rw [hJ]
    refine Ld1.mk hs3 rfl (AsI.mk ?_)
    have f := f2.trans f3
    exact If.beq (fun _ => ⟨m, 1, rfl, by omega, by omega, h3, f⟩) fun _ => If.beq (fun _ => ⟨m, 2, rfl, by omega, by omega, h3, f⟩) fun _ => ⟨m, 0, rfl, by omega, by omega, h3, f⟩
  refine If.dec (fun h50 => ?_) fun _ => fin _ _ _ W1 0 hh1 f1 hs1 (by omega) (by omega) (by omega) (by omega) (by omega) (by omega) (by omega) (by omega)
  refine CallK.mk (medianAdj_gives E hh1 (j := a + q) (by omega) (by omega) hd hs1 hsl (by omega)) ?_
  rintro _ W2 ⟨k1, rfl, hk1, h2, f2, c2, hs2, hc2⟩
  refine AsI.mk ?_
  refine CallK.mk (medianAdj_gives E h2 (j := a + 2 * q) (by omega) (by omega) hd hs2 hsl (by omega)) ?_
  rintro _ W3 ⟨k2, rfl, hk2, h3, f3, c3, hs3, hc3⟩
  refine AsI.mk ?_
  refine CallK.mk (medianAdj_gives E h3 (j := a + 3 * q) (by omega) (by omega) hd hs3 hsl (by omega)) ?_
  rintro _ W4 ⟨k3, rfl, hk3, h4, f4, c4, hs4, hc4⟩
  refine AsI.mk ?_
  exact fin k1 k2 k3 W4 c4 h4 (((f1.trans f2).trans f3).trans f4) hs4 (by omega) (by omega) (by omega) (by omega) (by omega) (by omega) (by omega) (by omega))
theorem reverse_gives (E : SE Try.prog enc 2 cf fv blk lim inv) {W : World} {d : List α} (h : SS enc 2 el blk lim cap inv W d) {a b : Nat} (hab : a < b) (hb : b ≤ d.length) (hd : d.length < 1099511627776) :
    Gives Try.prog 55 #[rw' blk d.length cap, ns a, ns b, fv] W fun v W' => v = .tuple #[] ∧ ∃ d', SS enc 2 el blk lim cap inv W' d' ∧ Sw a b d d' ∧ Fr (Tn blk lim) W W' := F55_fn (by
  unfold F55
  rw [pred_w (by omega) (by omega)]
  refine Lp.i2 (fun i j W' => ∃ (p q : Nat) (d' : List α), i = (p : Int) ∧ j = (q : Int) ∧ SS enc 2 el blk lim cap inv W' d' ∧ Sw a b d d' ∧ Fr (Tn blk lim) W W' ∧ a ≤ p ∧ q < b) (fun i j _ => (j - i).toNat)
    ⟨a, b - 1, d, rfl, rfl, h, .refl, Fr.refl _ _, by omega, by omega⟩ ?_
  rintro _ _ W1 k ⟨p, q, d', rfl, rfl, h1, hsw, f1, hp, hq⟩ hk
  refine AsI.mk (AsI.mk (If.dec (fun hlt => ?_) fun _ => ⟨rfl, d', h1, hsw, f1⟩))
  have hl := hsw.len
  refine h1.swap E hl.symm rfl rfl (j1 := p) (j2 := q) (List.getElem?_eq_getElem (by omega)) (List.getElem?_eq_getElem (by omega)) fun W2 h2 f2 => ?_
  rw [succ_w (by omega), pred_w (by omega) (by omega)]
  exact hk _ _ _ ⟨p + 1, q - 1, _, rfl, rfl, h2, hsw.step hp (by omega) (by omega) hq (List.getElem?_eq_getElem (by omega)) (List.getElem?_eq_getElem (by omega)), f1.trans f2, by omega, by omega⟩ (by omega))
end
end Go.Proofs.Ytdfaocbpghjboaa.SrC
namespace Go.Proofs.Ytdfaocbpghjboaa.SrC
open Go Go.RowKit Go.Vc Go.Proofs.Ytdfaocbpghjboaa.Fs

section
variable {α : Type} {enc : α → List Value} {el : TypeId} {cf : α → α → Int} {fv : Value} {blk lim cap : Nat} {inv : World → Prop}
def Le (cf : α → α → Int) (x y : α) : Prop := ¬ cf y x < 0
structure TO (cf : α → α → Int) : Prop where
  tot : ∀ x y, Le cf x y ∨ Le cf y x
  tr : ∀ x y z, Le cf x y → Le cf y z → Le cf x z
def Srtd (cf : α → α → Int) (d : List α) (a b : Nat) : Prop := ∀ p q x y, a ≤ p → p < q → q < b → d[p]? = some x → d[q]? = some y → Le cf x y
theorem insertion_gives (O : TO cf) (E : SE Try.prog enc 2 cf fv blk lim inv) {W : World} {d : List α} (h : SS enc 2 el blk lim cap inv W d) {a b : Nat} (hb : b ≤ d.length) (hab : a ≤ b) (hd : d.length < 1099511627776) :
    Gives Try.prog 51 #[rw' blk d.length cap, ns a, ns b, fv] W fun v W' => v = .tuple #[] ∧ ∃ d', SS enc 2 el blk lim cap inv W' d' ∧ Sw a b d d' ∧ Fr (Tn blk lim) W W' ∧ Srtd cf d' a b := F51_fn (by
  unfold F51
  rw [succ_w (by omega)]
  refine Lp.i1 (fun i W' => ∃ (p : Nat) (d' : List α), i = (p : Int) ∧ SS enc 2 el blk lim cap inv W' d' ∧ Sw a b d d' ∧ Fr (Tn blk lim) W W' ∧ a + 1 ≤ p ∧ p ≤ b + 1 ∧ Srtd cf d' a p) (fun i _ => ((b : Int) + 1 - i).toNat)
    ⟨a + 1, d, rfl, h, .refl, Fr.refl _ _, by omega, by omega, fun p q x y h1 h2 h3 => by omega⟩ ?_
  rintro _ W1 k ⟨p, d1, rfl, h1, hsw1, f1, hp1, hp2, hs1⟩ hk
  refine AsI.mk (If.dec (fun hlt => ?_) fun hge => ⟨rfl, d1, h1, hsw1, f1, fun u v x y hu huv hv => hs1 u v x y hu huv (by omega)⟩)
  refine Lp.i1 (fun j W' => ∃ (q : Nat) (d' : List α), j = (q : Int) ∧ SS enc 2 el blk lim cap inv W' d' ∧ Sw a b d d' ∧ Fr (Tn blk lim) W W' ∧ a ≤ q ∧ q ≤ p ∧ ∀ u v x y, a ≤ u → u < v → v ≤ p → v ≠ q → d'[u]? = some x → d'[v]? = some y → Le cf x y) (fun j _ => j.toNat)
    ⟨p, d1, rfl, h1, hsw1, f1, by omega, by omega, fun u v x y hu huv hv hvp hx hy => hs1 u v x y hu huv (by omega) hx hy⟩ ?_
  rintro _ W2 k1 ⟨q, d2, rfl, h2, hsw2, f2, hq1, hq2, hs2⟩ hk1
  have hl2 := hsw2.len
  refine AsI.mk (Join.use fun J hJ => ?_)
  have fin : ∀ W3, SS enc 2 el blk lim cap inv W3 d2 → Fr (Tn blk lim) W W3 → (a < q → ∀ x y, d2[q - 1]? = some x → d2[q]? = some y → Le cf x y) → J false W3 := by
    intro W3 h3 f3 hle
    rw [hJ]
    refine If.neg rfl ?_
    rw [succ_w (by omega)]
    refine hk _ _ ⟨p + 1, d2, rfl, h3, hsw2, f3, by omega, by omega, fun u v x y hu huv hv hx hy => ?_⟩ (by omega)
    by_cases hvq : v = q
    · subst hvq
      have hz : d2[v - 1]? = some (d2[v - 1]'(by omega)) := List.getElem?_eq_getElem (by omega)
      generalize (d2[v - 1]'(by omega)) = z at hz
      have h4 := hle (by omega) z y hz hy
      by_cases huz : u = v - 1
      · subst huz; rw [hz] at hx; cases hx; exact h4
      · exact O.tr _ _ _ (hs2 u (v - 1) x z hu (by omega) (by omega) (by omega) hx hz) h4
    · exact hs2 u v x y hu huv (by omega) hvq hx hy
  refine If.dec (fun hgt => ?_) fun hle => ?_
  · have hqa : a < q := by omega
    rw [pred_w (by omega) (by omega)]
    have hx : d2[q]? = some (d2[q]'(by omega)) := List.getElem?_eq_getElem (by omega)
    have hy : d2[q - 1]? = some (d2[q - 1]'(by omega)) := List.getElem?_eq_getElem (by omega)
    generalize (d2[q]'(by omega)) = x at hx
    generalize (d2[q - 1]'(by omega)) = y at hy
    refine h2.cmpA E hl2.symm rfl rfl hx hy fun W3 h3 f3 => ?_
    by_cases hlt' : cf x y < 0
    · rw [decide_eq_true hlt', hJ]
      refine If.pos rfl ?_
      rw [pred_w (by omega) (by omega)]
      refine h3.swap E hl2.symm rfl rfl hx hy fun W4 h4 f4 => ?_
      have hxy : Le cf x y := (O.tot x y).resolve_right (fun h => h hlt')
      refine hk1 _ _ ⟨q - 1, _, rfl, h4, hsw2.step hq1 (by omega) (by omega) (by omega) hx hy, (f2.trans f3).trans f4, by omega, by omega, fun u v xx yy hu huv hv hvq hxx hyy => ?_⟩ (by omega)
      have eq : (swp d2 q (q - 1) x y)[q]? = some y := swp_i (by omega) (by omega)
      have eq1 : (swp d2 q (q - 1) x y)[q - 1]? = some x := swp_j (by omega)
      by_cases hv1 : v = q
      · subst hv1
        rw [eq] at hyy; cases hyy
        by_cases hu1 : u = v - 1
        · subst hu1; rw [eq1] at hxx; cases hxx; exact hxy
        · rw [swp_o (by omega) (by omega)] at hxx
          exact hs2 u (v - 1) _ _ hu (by omega) (by omega) (by omega) hxx hy
      · rw [swp_o hv1 hvq] at hyy
        by_cases hu1 : u = q
        · subst hu1; rw [eq] at hxx; cases hxx
          exact hs2 (u - 1) v _ _ (by omega) (by omega) hv hv1 hy hyy
        · by_cases hu2 : u = q - 1
          · subst hu2; rw [eq1] at hxx; cases hxx
            exact hs2 q v _ _ hq1 (by omega) hv hv1 hx hyy
          · rw [swp_o hu1 hu2] at hxx
            exact hs2 u v _ _ hu huv hv hv1 hxx hyy
    · rw [decide_eq_false hlt']
      refine fin W3 h3 (f2.trans f3) fun _ x' y' hx' hy' => ?_
      rw [hy] at hx'; rw [hx] at hy'; cases hx'; cases hy'
      exact hlt'
  · intro W3 hb3
    exact fin W3 (h2.below E hb3) (f2.trans (frOf hb3)) fun h => by omega)

/-! ### Heap sort -/
/-- Above every child, from lo on; but for what stands at c. -/
def Hp (cf : α → α → Int) (d : List α) (first lo hi c : Nat) : Prop := ∀ i x y, lo ≤ i → ∀ j, (j = 2 * i + 1 ∨ j = 2 * i + 2) → j < hi → i ≠ c → d[first + i]? = some x → d[first + j]? = some y → Le cf y x
/-- What stands above c, stands above its children. -/
def Hg (cf : α → α → Int) (d : List α) (first lo hi c : Nat) : Prop := ∀ p x y, lo ≤ p → (c = 2 * p + 1 ∨ c = 2 * p + 2) → ∀ j, (j = 2 * c + 1 ∨ j = 2 * c + 2) → j < hi → d[first + p]? = some x → d[first + j]? = some y → Le cf y x
theorem sift_gives (O : TO cf) (E : SE Try.prog enc 2 cf fv blk lim inv) {W : World} {d : List α} (h : SS enc 2 el blk lim cap inv W d) {lo hi first : Nat} (hb : first + hi ≤ d.length) (hd : d.length < 1099511627776) (_ : lo < hi ∨ hi = 0 ∨ lo ≤ hi) (hlo2 : lo < 1099511627776)
    (hp : Hp cf d first lo hi lo) :
    Gives Try.prog 61 #[rw' blk d.length cap, ns lo, ns hi, ns first, fv] W fun v W' => v = .tuple #[] ∧ ∃ d', SS enc 2 el blk lim cap inv W' d' ∧ Sw (first + lo) (first + hi) d d' ∧ Fr (Tn blk lim) W W' ∧ ∀ c, hi ≤ c → Hp cf d' first lo hi c := F61_fn (by
  unfold F61
  refine Lp.i1 (fun i W' => ∃ (r : Nat) (d' : List α), i = (r : Int) ∧ SS enc 2 el blk lim cap inv W' d' ∧ Sw (first + lo) (first + hi) d d' ∧ Fr (Tn blk lim) W W' ∧ lo ≤ r ∧ (r = lo ∨ r < hi) ∧ Hp cf d' first lo hi r ∧ Hg cf d' first lo hi r) (fun i _ => ((hi : Int) - i).toNat)
    ⟨lo, d, rfl, h, .refl, Fr.refl _ _, Nat.le_refl _, .inl rfl, hp, fun p x y hp1 hp2 => by omega⟩ ?_
  rintro _ W1 k ⟨r, d1, rfl, h1, hsw, f1, hr1, hr2, hH, hG⟩ hk
  have hl := hsw.len
  have e2 : IntKind.i64.wrap (2 * (r : Int)) = ((2 * r : Nat) : Int) := by rw [wrap_i64] <;> omega
  refine AsI.mk ?_
  rw [e2, succ_w (a := 2 * r) (by omega)]
  have fin : ∀ W2, SS enc 2 el blk lim cap inv W2 d1 → Fr (Tn blk lim) W W2 → (∀ x y, ∀ j, (j = 2 * r + 1 ∨ j = 2 * r + 2) → j < hi → d1[first + r]? = some x → d1[first + j]? = some y → Le cf y x) →
      (Value.tuple #[] = Value.tuple #[] ∧ ∃ d', SS enc 2 el blk lim cap inv W2 d' ∧ Sw (first + lo) (first + hi) d d' ∧ Fr (Tn blk lim) W W2 ∧ ∀ c, hi ≤ c → Hp cf d' first lo hi c) := fun W2 h2 f2 hc =>
    ⟨rfl, d1, h2, hsw, f2, fun c hcc i x y hi1 j hj hjh _ hx hy => by
      by_cases hir : i = r
      · subst hir; exact hc x y j hj hjh hx hy
      · exact hH i x y hi1 j hj hjh hir hx hy⟩
  refine If.dec (fun hge => fin W1 h1 f1 fun x y j hj hjh => by omega) fun hnge => ?_
  have hch : 2 * r + 1 < hi := by omega
  rw [succ_w (a := 2 * r + 1) (by omega), add_w (a := first) (b := 2 * r + 1) (by omega), succ_w (a := first + (2 * r + 1)) (by omega), add_w (a := first) (b := r) (by omega)]
  refine Join.use fun J hJ => ?_
  -- with the greater child m
  have step : ∀ (m : Nat) W2, SS enc 2 el blk lim cap inv W2 d1 → Fr (Tn blk lim) W W2 → (m = 2 * r + 1 ∨ m = 2 * r + 2) → m < hi → (∀ x y, ∀ j, (j = 2 * r + 1 ∨ j = 2 * r + 2) → j < hi → d1[first + m]? = some x → d1[first + j]? = some y → Le cf y x) →
      IdxS (some ⟨blk, 0, none⟩) d.length ((first + r : Nat) : Int) 2 fun q48 => LdNC W2 q48 2 fun l49 => Any W2 fun W_4 => IdxS (some ⟨blk, 0, none⟩) d.length (IntKind.i64.wrap ((first : Int) + (m : Int))) 2 fun q54 => LdNC W_4 q54 2 fun l55 =>
        YieldK Try.prog (callSem fv #[.agg l49.toArray, .agg l55.toArray]) W_4 (fun _ _ => False) fun u56 W_5 => AsI .i64 u56 fun x56 =>
        If (!(decide ((x56 : Int) < 0))) ((fun (v : Value) W' => v = .tuple #[] ∧ ∃ d', SS enc 2 el blk lim cap inv W' d' ∧ Sw (first + lo) (first + hi) d d' ∧ Fr (Tn blk lim) W W' ∧ ∀ c, hi ≤ c → Hp cf d' first lo hi c) (.tuple #[]) W_5)
          (IdxS (some ⟨blk, 0, none⟩) d.length (IntKind.i64.wrap ((first : Int) + (m : Int))) 2 fun q71 => LdNC W_5 q71 2 fun l72 => Any W_5 fun W_6 => IdxS (some ⟨blk, 0, none⟩) d.length ((first + r : Nat) : Int) 2 fun q77 => LdNC W_6 q77 2 fun l78 =>
            IdxS (some ⟨blk, 0, none⟩) d.length ((first + r : Nat) : Int) 2 fun q79 => StV 2 W_6 q79 (.agg l72.toArray) fun W_7 => IdxS (some ⟨blk, 0, none⟩) d.length (IntKind.i64.wrap ((first : Int) + (m : Int))) 2 fun q80 => StV 2 W_7 q80 (.agg l78.toArray) fun W_8 => k [.int .i64 (m : Int)] W_8) := by
    intro m W2 h2 f2 hm hmh hmax
    rw [add_w (a := first) (b := m) (by omega)]
    have hx : d1[first + r]? = some (d1[first + r]'(by omega)) := List.getElem?_eq_getElem (by omega)
    have hy : d1[first + m]? = some (d1[first + m]'(by omega)) := List.getElem?_eq_getElem (by omega)
    generalize (d1[first + r]'(by omega)) = x at hx
    generalize (d1[first + m]'(by omega)) = y at hy
    refine h2.cmpB E hl.symm rfl rfl hx hy fun W3 h3 f3 => ?_
    by_cases hlt : cf x y < 0
    · rw [decide_eq_true hlt]
      refine If.neg rfl ?_
      refine h3.swap E hl.symm rfl rfl hx hy fun W4 h4 f4 => ?_
      have hxy : Le cf x y := (O.tot x y).resolve_right (fun h => h hlt)
      have er : (swp d1 (first + r) (first + m) x y)[first + r]? = some y := swp_i (by omega) (by omega)
      have em : (swp d1 (first + r) (first + m) x y)[first + m]? = some x := swp_j (by omega)
      refine hk _ _ ⟨m, _, rfl, h4, hsw.step (by omega) (by omega) (by omega) (by omega) hx hy, (f2.trans f3).trans f4, by omega, .inr hmh, fun i u v hi1 j hj hjh him hu hv => ?_, fun p u v hp1 hp2 j hj hjh hu hv => ?_⟩ (by omega)
      · by_cases hir : i = r
        · subst hir
          rw [er] at hu; cases hu
          by_cases hjm : j = m
          · subst hjm; rw [em] at hv; cases hv; exact hxy
          · rw [swp_o (by omega) (by omega)] at hv
            exact hmax _ _ j hj hjh hy hv
        · rw [swp_o (by omega) (by omega)] at hu
          by_cases hjr : j = r
          · subst hjr
            rw [er] at hv; cases hv
            exact hG i u y hi1 hj m hm hmh hu hy
          · by_cases hjm : j = m
            · omega
            · rw [swp_o (by omega) (by omega)] at hv
              exact hH i u v hi1 j hj hjh hir hu hv
      · have : p = r := by omega
        subst this
        rw [er] at hu; cases hu
        rw [swp_o (by omega) (by omega)] at hv
        exact hH m y v (by omega) j hj hjh (by omega) hy hv
    · rw [decide_eq_false hlt]
      refine If.pos rfl (fin W3 h3 (f2.trans f3) fun x' y' j hj hjh hx' hy' => ?_)
      rw [hx] at hx'; cases hx'
      exact O.tr _ _ _ (hmax _ _ j hj hjh hy hy') hlt
  refine If.dec (fun hlt2 => ?_) fun hnlt2 => ?_
  · have hx : d1[first + (2 * r + 1)]? = some (d1[first + (2 * r + 1)]'(by omega)) := List.getElem?_eq_getElem (by omega)
    have hy : d1[first + (2 * r + 1) + 1]? = some (d1[first + (2 * r + 1) + 1]'(by omega)) := List.getElem?_eq_getElem (by omega)
    generalize (d1[first + (2 * r + 1)]'(by omega)) = x at hx
    generalize (d1[first + (2 * r + 1) + 1]'(by omega)) = y at hy
    refine h1.cmpA E hl.symm rfl rfl hx hy fun W2 h2 f2 => ?_
    rw [hJ]
    refine Join.use fun J1 hJ1 => ?_
    rw [hJ1]
    by_cases hlt : cf x y < 0
    · rw [decide_eq_true hlt]
      refine If.pos rfl (step (2 * r + 2) W2 h2 (f1.trans f2) (.inr rfl) (by omega) fun u v j hj hjh hu hv => ?_)
      have e : first + (2 * r + 2) = first + (2 * r + 1) + 1 := by omega
      rw [e, hy] at hu; cases hu
      rcases hj with rfl | rfl
      · rw [hx] at hv; cases hv; exact (O.tot _ _).resolve_right (fun h => h hlt)
      · rw [e, hy] at hv; cases hv; exact (O.tot _ _).elim id id
    · rw [decide_eq_false hlt]
      refine If.neg rfl (step (2 * r + 1) W2 h2 (f1.trans f2) (.inl rfl) hch fun u v j hj hjh hu hv => ?_)
      rw [hx] at hu; cases hu
      rcases hj with rfl | rfl
      · rw [hx] at hv; cases hv; exact (O.tot _ _).elim id id
      · have e : first + (2 * r + 2) = first + (2 * r + 1) + 1 := by omega
        rw [e, hy] at hv; cases hv; exact hlt
  · intro W2 hb2
    rw [hJ]
    refine Join.use fun J1 hJ1 => ?_
    rw [hJ1]
    refine If.neg rfl (step (2 * r + 1) W2 (h1.below E hb2) (f1.trans (frOf hb2)) (.inl rfl) hch fun u v j hj hjh hu hv => ?_)
    rcases hj with rfl | rfl
    · rw [hu] at hv; cases hv; exact (O.tot _ _).elim id id
    · omega)
end
end Go.Proofs.Ytdfaocbpghjboaa.SrC
namespace Go.Proofs.Ytdfaocbpghjboaa.SrC
open Go Go.RowKit Go.Vc Go.Proofs.Ytdfaocbpghjboaa.Fs

section
variable {α : Type} {enc : α → List Value} {el : TypeId} {cf : α → α → Int} {fv : Value} {blk lim cap : Nat} {inv : World → Prop}
theorem Hp.max (O : TO cf) {d : List α} {first hi c : Nat} (h : Hp cf d first 0 hi c) (hc : hi ≤ c) {r : α} (hr : d[first]? = some r) : ∀ (p : Nat) (x : α), p < hi → d[first + p]? = some x → Le cf x r := by
  intro p
  induction p using Nat.strongRecOn with
  | _ p ih =>
    intro x hp hx
    by_cases h0 : p = 0
    · subst h0; rw [Nat.add_zero, hr] at hx; cases hx; exact (O.tot _ _).elim id id
    · have hpl := (List.getElem?_eq_some_iff.1 hx).1
      have hy : d[first + (p - 1) / 2]? = some (d[first + (p - 1) / 2]'(by omega)) := List.getElem?_eq_getElem (by omega)
      exact O.tr _ _ _ (h ((p - 1) / 2) _ x (by omega) p (by omega) hp (by omega) hy hx) (ih ((p - 1) / 2) (by omega) _ (by omega) hy)
theorem heapsort_gives (O : TO cf) (E : SE Try.prog enc 2 cf fv blk lim inv) {W : World} {d : List α} (h : SS enc 2 el blk lim cap inv W d) {a b : Nat} (hab : a < b) (hb : b ≤ d.length) (hd : d.length < 1099511627776) :
    Gives Try.prog 52 #[rw' blk d.length cap, ns a, ns b, fv] W fun v W' => v = .tuple #[] ∧ ∃ d', SS enc 2 el blk lim cap inv W' d' ∧ Sw a b d d' ∧ Fr (Tn blk lim) W W' ∧ Srtd cf d' a b := F52_fn (by
  unfold F52
  have e0 : IntKind.i64.wrap ((b : Int) - (a : Int)) = ((b - a : Nat) : Int) := sub_w (by omega) (by omega)
  rw [e0, pred_w (by omega) (by omega)]
  generalize hhi : b - a = hi
  have e1 : IntKind.i64.wrap ((((hi - 1 : Nat) : Int)).tdiv 2) = (((hi - 1) / 2 : Nat) : Int) := by
    have : (((hi - 1 : Nat) : Int)).tdiv 2 = (((hi - 1) / 2 : Nat) : Int) := rfl
    rw [this, wrap_i64] <;> omega
  rw [e1]
  refine ⟨by decide, ?_⟩
  refine Lp.i1 (fun i W' => ∃ (p : Nat) (d' : List α), i = (p : Int) - 1 ∧ SS enc 2 el blk lim cap inv W' d' ∧ Sw a b d d' ∧ Fr (Tn blk lim) W W' ∧ p ≤ (hi - 1) / 2 + 1 ∧ ∀ c, hi ≤ c → Hp cf d' a p hi c) (fun i _ => (i + 1).toNat)
    ⟨(hi - 1) / 2 + 1, d, by omega, h, .refl, Fr.refl _ _, Nat.le_refl _, fun c _ i x y h1 j hj hjh => by omega⟩ ?_
  rintro _ W1 k ⟨p, d1, rfl, h1, hsw1, f1, hp, hH⟩ hk
  have hl1 := hsw1.len
  refine AsI.mk (If.dec (fun hge => ?_) fun hlt => ?_)
  · have e2 : ((p : Int) - 1) = ((p - 1 : Nat) : Int) := by omega
    rw [e2]
    have hcall := sift_gives O E h1 (lo := p - 1) (hi := hi) (first := a) (by omega) (by omega) (by omega) (by omega) (fun i x y hi1 j hj hjh hne => hH hi (Nat.le_refl _) i x y (by omega) j hj hjh (by omega))
    rw [hl1] at hcall
    refine CallK.mk hcall ?_
    rintro _ W2 ⟨rfl, d2, h2, hsw2, f2, hH2⟩
    have e3 : IntKind.i64.wrap (((p - 1 : Nat) : Int) - 1) = ((p - 1 : Nat) : Int) - 1 := by rw [wrap_i64] <;> omega
    rw [e3]
    exact hk _ _ ⟨p - 1, d2, rfl, h2, hsw1.trans (hsw2.mono (by omega) (by omega)), f1.trans f2, by omega, hH2⟩ (by omega)
  · have hp0 : p = 0 := by omega
    subst hp0
    have e4 : ((hi - 1 : Nat) : Int) = ((hi : Nat) : Int) - 1 := by omega
    rw [e4]
    refine Lp.i1 (fun i W' => ∃ (p : Nat) (d' : List α), i = (p : Int) - 1 ∧ SS enc 2 el blk lim cap inv W' d' ∧ Sw a b d d' ∧ Fr (Tn blk lim) W W' ∧ p ≤ hi ∧ (∀ c, p ≤ c → Hp cf d' a 0 p c) ∧ (∀ u v x y, u < p → p ≤ v → v < hi → d'[a + u]? = some x → d'[a + v]? = some y → Le cf x y) ∧ Srtd cf d' (a + p) b) (fun i _ => (i + 1).toNat)
      ⟨hi, d1, rfl, h1, hsw1, f1, Nat.le_refl _, hH, fun u v x y _ h1 h2 => by omega, fun u v x y h1 h2 h3 => by omega⟩ ?_
    rintro _ W2 k2 ⟨p, d2, rfl, h2, hsw2, f2, hp2, hH2, hbig, hsr⟩ hk2
    have hl2 := hsw2.len
    refine AsI.mk (If.dec (fun hge => ?_) fun hlt2 => ?_)
    · have e2 : ((p : Int) - 1) = ((p - 1 : Nat) : Int) := by omega
      rw [e2, add_w (by omega)]
      have hx : d2[a]? = some (d2[a]'(by omega)) := List.getElem?_eq_getElem (by omega)
      have hy : d2[a + (p - 1)]? = some (d2[a + (p - 1)]'(by omega)) := List.getElem?_eq_getElem (by omega)
      generalize (d2[a]'(by omega)) = x at hx
      generalize (d2[a + (p - 1)]'(by omega)) = y at hy
      refine h2.swap E hl2.symm rfl rfl hx hy fun W3 h3 f3 => ?_
      have hmax := (hH2 p (Nat.le_refl _)).max O (Nat.le_refl _) hx
      have hl3 : (swp d2 a (a + (p - 1)) x y).length = d.length := by rw [swp_len, hl2]
      have ej : (swp d2 a (a + (p - 1)) x y)[a + (p - 1)]? = some x := swp_j (by omega)
      have hcall := sift_gives O E h3 (lo := 0) (hi := p - 1) (first := a) (by omega) (by omega) (by omega) (by omega) (fun i u v _ j hj hjh hne hu hv => by
        rw [swp_o (by omega) (by omega)] at hu hv
        exact hH2 p (Nat.le_refl _) i u v (by omega) j hj (by omega) (by omega) hu hv)
      rw [hl3] at hcall
      refine CallK.mk hcall ?_
      rintro _ W4 ⟨rfl, d4, h4, hsw4, f4, hH4⟩
      have e3 : IntKind.i64.wrap (((p - 1 : Nat) : Int) - 1) = ((p - 1 : Nat) : Int) - 1 := by rw [wrap_i64] <;> omega
      rw [e3]
      have hsw3 : Sw a b d (swp d2 a (a + (p - 1)) x y) := hsw2.step (by omega) (by omega) (by omega) (by omega) hx hy
      -- all of the front are below x
      have hfront3 : ∀ k z, a + 0 ≤ k → k < a + (p - 1) → (swp d2 a (a + (p - 1)) x y)[k]? = some z → Le cf z x := by
        intro q z hq1 hq2 hz
        by_cases hqa : q = a
        · subst hqa
          rw [swp_i (by omega) (by omega)] at hz; cases hz
          exact hmax (p - 1) _ (by omega) hy
        · rw [swp_o hqa (by omega)] at hz
          exact hmax (q - a) z (by omega) (by rw [show a + (q - a) = q by omega]; exact hz)
      have hfront3' : ∀ v yy, p ≤ v → v < hi → d2[a + v]? = some yy → ∀ k z, a + 0 ≤ k → k < a + (p - 1) → (swp d2 a (a + (p - 1)) x y)[k]? = some z → Le cf z yy := by
        intro v yy hv1 hv2 hyy q z hq1 hq2 hz
        by_cases hqa : q = a
        · subst hqa
          rw [swp_i (by omega) (by omega)] at hz; cases hz
          exact hbig (p - 1) v _ _ (by omega) hv1 hv2 hy hyy
        · rw [swp_o hqa (by omega)] at hz
          exact hbig (q - a) v z yy (by omega) hv1 hv2 (by rw [show a + (q - a) = q by omega]; exact hz) hyy
      have hout4 : ∀ k, a + (p - 1) ≤ k → d4[k]? = (swp d2 a (a + (p - 1)) x y)[k]? := fun q hq => hsw4.out (.inr hq)
      refine hk2 _ _ ⟨p - 1, d4, rfl, h4, hsw3.trans (hsw4.mono (by omega) (by omega)), (f2.trans f3).trans f4, by omega, hH4, fun u v xx yy hu hv hvh hxx hyy => ?_, fun u v xx yy hu huv hv hxx hyy => ?_⟩ (by omega)
      · rw [hout4 _ (by omega)] at hyy
        by_cases hvp : v = p - 1
        · subst hvp
          rw [ej] at hyy; cases hyy
          exact hsw4.all (p := fun z => Le cf z x) hfront3 (a + u) xx (by omega) (by omega) hxx
        · rw [swp_o (by omega) (by omega)] at hyy
          exact hsw4.all (p := fun z => Le cf z yy) (hfront3' v yy (by omega) hvh hyy) (a + u) xx (by omega) (by omega) hxx
      · rw [hout4 _ (by omega)] at hxx hyy
        rw [swp_o (by omega) (by omega)] at hyy
        by_cases hup : u = a + (p - 1)
        · subst hup
          rw [ej] at hxx; cases hxx
          exact hbig 0 (v - a) x yy (by omega) (by omega) (by omega) (by rw [Nat.add_zero]; exact hx) (by rw [show a + (v - a) = v by omega]; exact hyy)
        · rw [swp_o (by omega) (by omega)] at hxx
          exact hsr u v xx yy (by omega) huv hv hxx hyy
    · have hp0 : p = 0 := by omega
      subst hp0
      exact ⟨rfl, d2, h2, hsw2, f2, by simpa using hsr⟩)
end
end Go.Proofs.Ytdfaocbpghjboaa.SrC
namespace Go.Proofs.Ytdfaocbpghjboaa.SrC
open Go Go.RowKit Go.Vc Go.Proofs.Ytdfaocbpghjboaa.Fs Go.Proofs.Ytdfaocbpghjboaa.Cx

section
variable {α : Type} {enc : α → List Value} {el : TypeId} {cf : α → α → Int} {fv : Value} {blk lim cap : Nat} {inv : World → Prop}
theorem break_gives (E : SE Try.prog enc 2 cf fv blk lim inv) {W : World} {d : List α} (h : SS enc 2 el blk lim cap inv W d) {a b : Nat} (hab : a + 12 < b) (hb : b ≤ d.length) (hd : d.length < 1099511627776) :
    Gives Try.prog 53 #[rw' blk d.length cap, ns a, ns b, fv] W fun v W' => v = .tuple #[] ∧ ∃ d', SS enc 2 el blk lim cap inv W' d' ∧ Sw a b d d' ∧ Fr (Tn blk lim) W W' := F53_fn (by
  unfold F53
  refine Join.use fun J hJ => ?_
  have e0 : IntKind.i64.wrap ((b : Int) - (a : Int)) = ((b - a : Nat) : Int) := sub_w (by omega) (by omega)
  rw [e0]
  generalize hlen : b - a = len
  have e1 : IntKind.i64.wrap (((len : Nat) : Int).tdiv 4) = ((len / 4 : Nat) : Int) := by
    have : (((len : Nat) : Int)).tdiv 4 = ((len / 4 : Nat) : Int) := rfl
    rw [this, wrap_i64] <;> omega
  have e2 : IntKind.i64.wrap (((len / 4 : Nat) : Int) * 2) = ((2 * (len / 4) : Nat) : Int) := by rw [wrap_i64] <;> omega
  rw [e1, e2, add_w (a := a) (b := 2 * (len / 4)) (by omega), succ_w (a := a + 2 * (len / 4)) (by omega), pred_w (a := a + 2 * (len / 4)) (by omega) (by omega)]
  refine If.dec (fun _ => ?_) fun hn => absurd (show ((len : Nat) : Int) ≥ 8 by omega) hn
  refine NewA.mk fun s W2 hs2 hse _ hb2 => ?_
  have hsl : lim ≤ s := by have := h.lm; omega
  refine StV.to1 hs2 rfl (show 0 < 1 by decide) rfl fun W3 hs3 _ f3 => ?_
  have f3' : Fr (fun b => lim ≤ b) W W3 := (frOf hb2).trans (f3.mono fun b _ e => by subst e; exact hsl)
  have h3 := h.other E f3'
  refine CallK.mk (pow2_gives len (by omega) (by omega) W3) ?_
  rintro _ _ ⟨rfl, m, rfl, hm0, hm⟩
  rename_i W3
  refine AsI.mk ⟨by decide, ?_⟩
  refine Lp.i1 (fun i W' => ∃ (p : Nat) (d' : List α) (x : Int), i = (p : Int) ∧ SS enc 2 el blk lim cap inv W' d' ∧ Sw a b d d' ∧ Fr (Tn blk lim) W W' ∧ a + 2 * (len / 4) - 1 ≤ p ∧ W'.heap[s]? = some (.cells #[.int .u64 x] 104 (0, 0))) (fun i _ => ((a + 2 * (len / 4) + 2 : Nat) - i).toNat)
    ⟨_, d, _, rfl, h3, .refl, f3'.mono fun _ _ h => .inr h, Nat.le_refl _, hs3⟩ ?_
  rintro _ W4 k ⟨p, d1, x, rfl, h4, hsw, f4, hp, hs4⟩ hk
  have hl := hsw.len
  refine AsI.mk ⟨by decide, If.dec (fun hle => ?_) fun _ => by rw [hJ]; exact ⟨rfl, d1, h4, hsw, f4⟩⟩
  refine CallK.mk (next_gives hs4) ?_
  rintro _ W5 ⟨y, rfl, hs5, f5⟩
  refine AsI.mk ?_
  have f5' : Fr (fun b => lim ≤ b) W4 W5 := f5.mono fun b _ e => by subst e; exact hsl
  have h5 := h4.other E f5'
  -- the other place
  have eo : ∃ o : Nat, o < 2 * len ∧ IntKind.i64.wrap (IntKind.u64.wrap ((((BitVec.ofInt (IntKind.u64).bits y) &&& (BitVec.ofInt (IntKind.u64).bits (IntKind.u64.wrap ((m : Int) - 1)))).toNat : Int))) = (o : Int) := by
    refine ⟨((BitVec.ofInt (IntKind.u64).bits y) &&& (BitVec.ofInt (IntKind.u64).bits (IntKind.u64.wrap ((m : Int) - 1)))).toNat, ?_, ?_⟩
    · rw [BitVec.toNat_and]
      refine Nat.lt_of_le_of_lt Nat.and_le_right ?_
      rw [wrap_u64 (by omega) (by omega), BitVec.toNat_ofInt]
      have : (((m : Int) - 1) % ((2 ^ IntKind.u64.bits : Nat) : Int)).toNat = m - 1 := by
        have : ((2 ^ IntKind.u64.bits : Nat) : Int) = 18446744073709551616 := by decide
        rw [this]; omega
      rw [this]; omega
    · have hlt : ((BitVec.ofInt (IntKind.u64).bits y) &&& (BitVec.ofInt (IntKind.u64).bits (IntKind.u64.wrap ((m : Int) - 1)))).toNat < 2 * len := by
        rw [BitVec.toNat_and]
        refine Nat.lt_of_le_of_lt Nat.and_le_right ?_
        rw [wrap_u64 (by omega) (by omega), BitVec.toNat_ofInt]
        have : (((m : Int) - 1) % ((2 ^ IntKind.u64.bits : Nat) : Int)).toNat = m - 1 := by
          have : ((2 ^ IntKind.u64.bits : Nat) : Int) = 18446744073709551616 := by decide
          rw [this]; omega
        rw [this]; omega
      rw [wrap_u64 (by omega) (by omega), wrap_i64 (by omega) (by omega)]
  obtain ⟨o, ho, heo⟩ := eo
  rw [heo]
  refine Join.use fun J1 hJ1 => ?_
  have step : ∀ q : Nat, q < len → J1 (q : Int) W5 := by
    intro q hq
    rw [hJ1]
    refine h5.swap0 E hl.symm rfl (add_w (a := a) (b := q) (by omega)) (j1 := p) (j2 := a + q) (List.getElem?_eq_getElem (by omega)) (List.getElem?_eq_getElem (by omega)) fun W6 h6 f6 => ?_
    rw [succ_w (by omega)]
    refine hk _ _ ⟨p + 1, _, y, rfl, h6, hsw.step (by omega) (by omega) (by omega) (by omega) (List.getElem?_eq_getElem (by omega)) (List.getElem?_eq_getElem (by omega)), (f4.trans (f5'.mono fun _ _ h => .inr h)).trans (f6.mono fun _ _ h => .inl h), by omega, f6.at (by have := E.bl; omega) hs5⟩ (by omega)
  refine If.dec (fun hge => ?_) fun hlt => step o (by omega)
  have es : IntKind.i64.wrap ((o : Int) - (len : Int)) = ((o - len : Nat) : Int) := by rw [wrap_i64] <;> omega
  rw [es]
  exact step (o - len) (by omega))
end
end Go.Proofs.Ytdfaocbpghjboaa.SrC
namespace Go.Proofs.Ytdfaocbpghjboaa.SrC
open Go Go.RowKit Go.Vc Go.Proofs.Ytdfaocbpghjboaa.Fs

section
variable {α : Type} {enc : α → List Value} {el : TypeId} {cf : α → α → Int} {fv : Value} {blk lim cap : Nat} {inv : World → Prop}
theorem parteq_gives (E : SE Try.prog enc 2 cf fv blk lim inv) {W : World} {d : List α} (h : SS enc 2 el blk lim cap inv W d) {a b p : Nat} {x : α} (hap : a ≤ p) (hpb : p < b) (hb : b ≤ d.length) (hd : d.length < 1099511627776) (hx : d[p]? = some x) (hxx : ¬ cf x x < 0) :
    Gives Try.prog 57 #[rw' blk d.length cap, ns a, ns b, ns p, fv] W fun v W' => ∃ (mid : Nat) (d' : List α), v = ns mid ∧ a < mid ∧ mid ≤ b ∧ SS enc 2 el blk lim cap inv W' d' ∧ Sw a b d d' ∧ Fr (Tn blk lim) W W' ∧
      (∀ k y, a ≤ k → k < mid → d'[k]? = some y → ¬ cf x y < 0) ∧ ∀ k y, mid ≤ k → k < b → d'[k]? = some y → cf x y < 0 := F57_fn (by
  unfold F57
  have hz : d[a]? = some (d[a]'(by omega)) := List.getElem?_eq_getElem (by omega)
  generalize (d[a]'(by omega)) = z at hz
  refine h.swap E rfl rfl rfl (j1 := a) (j2 := p) hz hx fun W1 h1 f1 => ?_
  have ha1 : (swp d a p z x)[a]? = some x := by
    by_cases hap' : a = p
    · subst hap'; rw [hz] at hx; cases hx; exact swp_j (by omega)
    · exact swp_i (by omega) hap'
  have hsw1 : Sw a b d (swp d a p z x) := Sw.refl.step (by omega) (by omega) hap hpb hz hx
  rw [succ_w (a := a) (by omega), pred_w (a := b) (by omega) (by omega)]
  refine Lp.i2 (fun i j W' => ∃ (u v : Nat) (d' : List α), i = (u : Int) ∧ j = (v : Int) ∧ SS enc 2 el blk lim cap inv W' d' ∧ Sw a b d d' ∧ Fr (Tn blk lim) W W' ∧ a + 1 ≤ u ∧ v < b ∧ u ≤ v + 1 ∧ d'[a]? = some x ∧
      (∀ k y, a ≤ k → k < u → d'[k]? = some y → ¬ cf x y < 0) ∧ ∀ k y, v < k → k < b → d'[k]? = some y → cf x y < 0) (fun i j _ => (j + 1 - i).toNat)
    ⟨a + 1, b - 1, _, rfl, rfl, h1, hsw1, f1, by omega, by omega, by omega, ha1, fun k y hk1 hk2 hy => by
      have : k = a := by omega
      subst this; rw [ha1] at hy; cases hy; exact hxx, fun k y hk1 hk2 => by omega⟩ ?_
  rintro _ _ W2 k ⟨u, v, d2, rfl, rfl, h2, hsw2, f2, hu1, hv1, huv, ha2, hlo, hhi⟩ hk
  have hl2 := hsw2.len
  refine AsI.mk (AsI.mk ?_)
  refine Lp.i1 (fun i W' => ∃ (r : Nat), i = (r : Int) ∧ SS enc 2 el blk lim cap inv W' d2 ∧ Fr (Tn blk lim) W W' ∧ u ≤ r ∧ r ≤ v + 1 ∧ ∀ k y, a ≤ k → k < r → d2[k]? = some y → ¬ cf x y < 0) (fun i _ => ((v : Int) + 1 - i).toNat)
    ⟨u, rfl, h2, f2, Nat.le_refl _, huv, hlo⟩ ?_
  rintro _ W3 k1 ⟨r, rfl, h3, f3, hr1, hr2, hlo3⟩ hk1
  refine AsI.mk (Join.use fun J hJ => ?_)
  -- the second inner loop, from wherever the first one ends
  have second : ∀ W4, SS enc 2 el blk lim cap inv W4 d2 → Fr (Tn blk lim) W W4 → (r ≤ v → ∀ y, d2[r]? = some y → cf x y < 0) → J false W4 := by
    intro W4 h4 f4 hr
    rw [hJ]
    refine If.neg rfl ?_
    refine Lp.i1 (fun j W' => ∃ (q : Nat), j = (q : Int) ∧ SS enc 2 el blk lim cap inv W' d2 ∧ Fr (Tn blk lim) W W' ∧ q ≤ v ∧ r ≤ q + 1 ∧ ∀ k y, q < k → k < b → d2[k]? = some y → cf x y < 0) (fun j _ => j.toNat)
      ⟨v, rfl, h4, f4, Nat.le_refl _, hr2, hhi⟩ ?_
    rintro _ W5 k2 ⟨q, rfl, h5, f5, hq1, hq2, hhi5⟩ hk2
    refine AsI.mk (Join.use fun J1 hJ1 => ?_)
    have fin : ∀ W6, SS enc 2 el blk lim cap inv W6 d2 → Fr (Tn blk lim) W W6 → (r ≤ q → ∀ y, d2[q]? = some y → ¬ cf x y < 0) → J1 false W6 := by
      intro W6 h6 f6 hq
      rw [hJ1]
      refine If.neg rfl (If.dec (fun hgt => ⟨r, d2, rfl, by omega, by omega, h6, hsw2, f6, hlo3, fun k y hk1 hk2 hy => hhi5 k y (by omega) hk2 hy⟩) fun hngt => ?_)
      have hrq : r ≤ q := by omega
      have hy1 : d2[r]? = some (d2[r]'(by omega)) := List.getElem?_eq_getElem (by omega)
      have hy2 : d2[q]? = some (d2[q]'(by omega)) := List.getElem?_eq_getElem (by omega)
      generalize (d2[r]'(by omega)) = y1 at hy1
      generalize (d2[q]'(by omega)) = y2 at hy2
      have c1 := hr (by omega) y1 hy1
      have c2 := hq hrq y2 hy2
      refine h6.swap E hl2.symm rfl rfl hy1 hy2 fun W7 h7 f7 => ?_
      rw [succ_w (a := r) (by omega), pred_w (a := q) (by omega) (by omega)]
      have hne : r ≠ q := fun e => by subst e; rw [hy1] at hy2; cases hy2; exact c2 c1
      have er : (swp d2 r q y1 y2)[r]? = some y2 := swp_i (by omega) hne
      have eq : (swp d2 r q y1 y2)[q]? = some y1 := swp_j (by omega)
      refine hk _ _ _ ⟨r + 1, q - 1, _, rfl, rfl, h7, hsw2.step (by omega) (by omega) (by omega) (by omega) hy1 hy2, f6.trans f7, by omega, by omega, by omega, by rw [swp_o (by omega) (by omega)]; exact ha2, fun k y hk1 hk2 hy => ?_, fun k y hk1 hk2 hy => ?_⟩ (by omega)
      · by_cases hkr : k = r
        · subst hkr; rw [er] at hy; cases hy; exact c2
        · rw [swp_o hkr (by omega)] at hy; exact hlo3 k y hk1 (by omega) hy
      · by_cases hkq : k = q
        · subst hkq; rw [eq] at hy; cases hy; exact c1
        · rw [swp_o (by omega) hkq] at hy; exact hhi5 k y (by omega) hk2 hy
    refine If.dec (fun hle => ?_) fun hgt => ?_
    · have hy2 : d2[q]? = some (d2[q]'(by omega)) := List.getElem?_eq_getElem (by omega)
      generalize (d2[q]'(by omega)) = y2 at hy2
      refine h5.cmpA E hl2.symm rfl rfl ha2 hy2 fun W6 h6 f6 => ?_
      by_cases hlt : cf x y2 < 0
      · rw [decide_eq_true hlt, hJ1]
        refine If.pos rfl ?_
        rw [pred_w (a := q) (by omega) (by omega)]
        refine hk2 _ _ ⟨q - 1, rfl, h6, f5.trans f6, by omega, by omega, fun k y hk1 hk2 hy => ?_⟩ (by omega)
        by_cases hkq : k = q
        · subst hkq; rw [hy2] at hy; cases hy; exact hlt
        · exact hhi5 k y (by omega) hk2 hy
      · rw [decide_eq_false hlt]
        exact fin W6 h6 (f5.trans f6) fun _ y hy => by rw [hy2] at hy; cases hy; exact hlt
    · intro W6 hb6
      exact fin W6 (h5.below E hb6) (f5.trans (frOf hb6)) fun hrq => by omega
  refine If.dec (fun hle => ?_) fun hgt => ?_
  · have hy1 : d2[r]? = some (d2[r]'(by omega)) := List.getElem?_eq_getElem (by omega)
    generalize (d2[r]'(by omega)) = y1 at hy1
    refine h3.cmpA E hl2.symm rfl rfl ha2 hy1 fun W4 h4 f4 => ?_
    by_cases hlt : cf x y1 < 0
    · rw [decide_eq_true hlt]
      exact second W4 h4 (f3.trans f4) fun _ y hy => by rw [hy1] at hy; cases hy; exact hlt
    · rw [decide_eq_false hlt, hJ]
      refine If.pos rfl ?_
      rw [succ_w (a := r) (by omega)]
      refine hk1 _ _ ⟨r + 1, rfl, h4, f3.trans f4, by omega, by omega, fun k y hk1 hk2 hy => ?_⟩ (by omega)
      by_cases hkr : k = r
      · subst hkr; rw [hy1] at hy; cases hy; exact hlt
      · exact hlo3 k y hk1 (by omega) hy
  · intro W4 hb4
    exact second W4 (h3.below E hb4) (f3.trans (frOf hb4)) fun hrv => by omega)
end
end Go.Proofs.Ytdfaocbpghjboaa.SrC
namespace Go.Proofs.Ytdfaocbpghjboaa.SrC
open Go Go.RowKit Go.Vc Go.Proofs.Ytdfaocbpghjboaa.Fs

section
variable {α : Type} {enc : α → List Value} {el : TypeId} {cf : α → α → Int} {fv : Value} {blk lim cap : Nat} {inv : World → Prop}
/-- What a partition at mid comes to. -/
def Part (cf : α → α → Int) (d' : List α) (a b mid : Nat) (x : α) : Prop := d'[mid]? = some x ∧ (∀ k y, a ≤ k → k < mid → d'[k]? = some y → cf y x < 0) ∧ ∀ k y, mid < k → k < b → d'[k]? = some y → ¬ cf y x < 0
theorem part_end {d2 : List α} {a b r q : Nat} {x : α} (hq1 : q < b) (hqa : a ≤ q) (hb : b ≤ d2.length) (hrq : r = q + 1) (ha2 : d2[a]? = some x) (hlo : ∀ k y, a < k → k < r → d2[k]? = some y → cf y x < 0) (hhi : ∀ k y, q < k → k < b → d2[k]? = some y → ¬ cf y x < 0) {y : α} (hy : d2[q]? = some y) :
    Part cf (swp d2 q a y x) a b q x := by
  by_cases hqa' : q = a
  · subst hqa'
    have : y = x := Option.some.inj (hy.symm.trans ha2)
    subst this
    have e : (swp d2 q q y y)[q]? = some y := swp_j (by omega)
    exact ⟨e, fun k y hk1 hk2 => by omega, fun k y' hk1 hk2 hy' => hhi k y' hk1 hk2 (by rw [swp_o (by omega) (by omega)] at hy'; exact hy')⟩
  · have eq : (swp d2 q a y x)[q]? = some x := swp_i (by omega) hqa'
    have ea : (swp d2 q a y x)[a]? = some y := swp_j (by omega)
    refine ⟨eq, fun k z hk1 hk2 hz => ?_, fun k z hk1 hk2 hz => ?_⟩
    · by_cases hka : k = a
      · subst hka; rw [ea] at hz; cases hz; exact hlo q y (by omega) (by omega) hy
      · rw [swp_o (by omega) hka] at hz; exact hlo k z (by omega) (by omega) hz
    · rw [swp_o (by omega) (by omega)] at hz; exact hhi k z hk1 hk2 hz
theorem part_gives (E : SE Try.prog enc 2 cf fv blk lim inv) {W : World} {d : List α} (h : SS enc 2 el blk lim cap inv W d) {a b p : Nat} {x : α} (hap : a ≤ p) (hpb : p < b) (hb : b ≤ d.length) (hd : d.length < 1099511627776) (hx : d[p]? = some x) :
    Gives Try.prog 58 #[rw' blk d.length cap, ns a, ns b, ns p, fv] W fun v W' => ∃ (mid : Nat) (d' : List α) (al : Bool), v = .tuple #[ns mid, .bool al] ∧ a ≤ mid ∧ mid < b ∧ SS enc 2 el blk lim cap inv W' d' ∧ Sw a b d d' ∧ Fr (Tn blk lim) W W' ∧ Part cf d' a b mid x := F58_fn (by
  unfold F58
  have hz : d[a]? = some (d[a]'(by omega)) := List.getElem?_eq_getElem (by omega)
  generalize (d[a]'(by omega)) = z at hz
  refine h.swap E rfl rfl rfl (j1 := a) (j2 := p) hz hx fun W1 h1 f1 => ?_
  have ha1 : (swp d a p z x)[a]? = some x := by
    by_cases hap' : a = p
    · subst hap'; rw [hz] at hx; cases hx; exact swp_j (by omega)
    · exact swp_i (by omega) hap'
  have hsw1 : Sw a b d (swp d a p z x) := Sw.refl.step (by omega) (by omega) hap hpb hz hx
  rw [succ_w (a := a) (by omega), pred_w (a := b) (by omega) (by omega)]
  generalize hd1 : swp d a p z x = d1 at *
  have hl1 := hsw1.len
  refine Lp.i1 (fun i W' => ∃ (r : Nat), i = (r : Int) ∧ SS enc 2 el blk lim cap inv W' d1 ∧ Fr (Tn blk lim) W W' ∧ a + 1 ≤ r ∧ r ≤ b ∧ ∀ k y, a < k → k < r → d1[k]? = some y → cf y x < 0) (fun i _ => ((b : Int) - i).toNat)
    ⟨a + 1, rfl, h1, f1, Nat.le_refl _, by omega, fun k y hk1 hk2 => by omega⟩ ?_
  rintro _ W3 k1 ⟨r, rfl, h3, f3, hr1, hr2, hlo3⟩ hk1
  refine AsI.mk (Join.use fun J hJ => ?_)
  have second : ∀ W4, SS enc 2 el blk lim cap inv W4 d1 → Fr (Tn blk lim) W W4 → (r < b → ∀ y, d1[r]? = some y → ¬ cf y x < 0) → J false W4 := by
    intro W4 h4 f4 hr
    rw [hJ]
    refine If.neg rfl ?_
    refine Lp.i1 (fun j W' => ∃ (q : Nat), j = (q : Int) ∧ SS enc 2 el blk lim cap inv W' d1 ∧ Fr (Tn blk lim) W W' ∧ q < b ∧ r ≤ q + 1 ∧ ∀ k y, q < k → k < b → d1[k]? = some y → ¬ cf y x < 0) (fun j _ => j.toNat)
      ⟨b - 1, rfl, h4, f4, by omega, by omega, fun k y hk1 hk2 => by omega⟩ ?_
    rintro _ W5 k2 ⟨q, rfl, h5, f5, hq1, hq2, hhi5⟩ hk2
    refine AsI.mk (Join.use fun J1 hJ1 => ?_)
    have fin : ∀ W6, SS enc 2 el blk lim cap inv W6 d1 → Fr (Tn blk lim) W W6 → (r ≤ q → ∀ y, d1[q]? = some y → cf y x < 0) → J1 false W6 := by
      intro W6 h6 f6 hq
      rw [hJ1]
      refine If.neg rfl (If.dec (fun hgt => ?_) fun hngt => ?_)
      · have hy : d1[q]? = some (d1[q]'(by omega)) := List.getElem?_eq_getElem (by omega)
        generalize (d1[q]'(by omega)) = y at hy
        refine h6.swap E hl1.symm rfl rfl hy ha1 fun W7 h7 f7 => ?_
        exact ⟨q, _, true, rfl, by omega, hq1, h7, hsw1.step (by omega) hq1 (by omega) (by omega) hy ha1, f6.trans f7, part_end hq1 (by omega) (by omega) (by omega) ha1 hlo3 hhi5 hy⟩
      · have hrq : r ≤ q := by omega
        have hy1 : d1[r]? = some (d1[r]'(by omega)) := List.getElem?_eq_getElem (by omega)
        have hy2 : d1[q]? = some (d1[q]'(by omega)) := List.getElem?_eq_getElem (by omega)
        generalize (d1[r]'(by omega)) = y1 at hy1
        generalize (d1[q]'(by omega)) = y2 at hy2
        have c1 := hr (by omega) y1 hy1
        have c2 := hq hrq y2 hy2
        refine h6.swap E hl1.symm rfl rfl hy1 hy2 fun W7 h7 f7 => ?_
        rw [succ_w (a := r) (by omega), pred_w (a := q) (by omega) (by omega)]
        have hne : r ≠ q := fun e => by subst e; rw [hy1] at hy2; cases hy2; exact c1 c2
        have er : (swp d1 r q y1 y2)[r]? = some y2 := swp_i (by omega) hne
        have eq : (swp d1 r q y1 y2)[q]? = some y1 := swp_j (by omega)
        refine Lp.i2 (fun i j W' => ∃ (u v : Nat) (d' : List α), i = (u : Int) ∧ j = (v : Int) ∧ SS enc 2 el blk lim cap inv W' d' ∧ Sw a b d d' ∧ Fr (Tn blk lim) W W' ∧ a + 1 ≤ u ∧ v < b ∧ u ≤ v + 1 ∧ d'[a]? = some x ∧
            (∀ k y, a < k → k < u → d'[k]? = some y → cf y x < 0) ∧ ∀ k y, v < k → k < b → d'[k]? = some y → ¬ cf y x < 0) (fun i j _ => (j + 1 - i).toNat)
          ⟨r + 1, q - 1, _, rfl, rfl, h7, hsw1.step (by omega) (by omega) (by omega) (by omega) hy1 hy2, f6.trans f7, by omega, by omega, by omega, by rw [swp_o (by omega) (by omega)]; exact ha1, fun k y hk1 hk2 hy => by
            by_cases hkr : k = r
            · subst hkr; rw [er] at hy; cases hy; exact c2
            · rw [swp_o hkr (by omega)] at hy; exact hlo3 k y hk1 (by omega) hy, fun k y hk1 hk2 hy => by
            by_cases hkq : k = q
            · subst hkq; rw [eq] at hy; cases hy; exact c1
            · rw [swp_o (by omega) hkq] at hy; exact hhi5 k y (by omega) hk2 hy⟩ ?_
        rintro _ _ W8 k ⟨u, v, d2, rfl, rfl, h8, hsw8, f8, hu1, hv1, huv, ha8, hlo8, hhi8⟩ hk
        have hl8 := hsw8.len
        refine AsI.mk (AsI.mk ?_)
        refine Lp.i1 (fun i W' => ∃ (r : Nat), i = (r : Int) ∧ SS enc 2 el blk lim cap inv W' d2 ∧ Fr (Tn blk lim) W W' ∧ u ≤ r ∧ r ≤ v + 1 ∧ ∀ k y, a < k → k < r → d2[k]? = some y → cf y x < 0) (fun i _ => ((v : Int) + 1 - i).toNat)
          ⟨u, rfl, h8, f8, Nat.le_refl _, huv, hlo8⟩ ?_
        rintro _ W9 k3 ⟨r', rfl, h9, f9, hr91, hr92, hlo9⟩ hk3
        refine AsI.mk (Join.use fun J2 hJ2 => ?_)
        have second2 : ∀ W4, SS enc 2 el blk lim cap inv W4 d2 → Fr (Tn blk lim) W W4 → (r' ≤ v → ∀ y, d2[r']? = some y → ¬ cf y x < 0) → J2 false W4 := by
          intro W10 h10 f10 hr'
          rw [hJ2]
          refine If.neg rfl ?_
          refine Lp.i1 (fun j W' => ∃ (q : Nat), j = (q : Int) ∧ SS enc 2 el blk lim cap inv W' d2 ∧ Fr (Tn blk lim) W W' ∧ q ≤ v ∧ r' ≤ q + 1 ∧ ∀ k y, q < k → k < b → d2[k]? = some y → ¬ cf y x < 0) (fun j _ => j.toNat)
            ⟨v, rfl, h10, f10, Nat.le_refl _, hr92, hhi8⟩ ?_
          rintro _ W11 k4 ⟨q', rfl, h11, f11, hq111, hq112, hhi11⟩ hk4
          refine AsI.mk (Join.use fun J3 hJ3 => ?_)
          have fin2 : ∀ W6, SS enc 2 el blk lim cap inv W6 d2 → Fr (Tn blk lim) W W6 → (r' ≤ q' → ∀ y, d2[q']? = some y → cf y x < 0) → J3 false W6 := by
            intro W12 h12 f12 hq'
            rw [hJ3]
            refine If.neg rfl (If.dec (fun hgt => ?_) fun hngt => ?_)
            · have hy : d2[q']? = some (d2[q']'(by omega)) := List.getElem?_eq_getElem (by omega)
              generalize (d2[q']'(by omega)) = y at hy
              refine h12.swap E hl8.symm rfl rfl hy ha8 fun W13 h13 f13 => ?_
              exact ⟨q', _, false, rfl, by omega, by omega, h13, hsw8.step (by omega) (by omega) (by omega) (by omega) hy ha8, f12.trans f13, part_end (by omega) (by omega) (by omega) (by omega) ha8 hlo9 hhi11 hy⟩
            · have hy1' : d2[r']? = some (d2[r']'(by omega)) := List.getElem?_eq_getElem (by omega)
              have hy2' : d2[q']? = some (d2[q']'(by omega)) := List.getElem?_eq_getElem (by omega)
              generalize (d2[r']'(by omega)) = z1 at hy1'
              generalize (d2[q']'(by omega)) = z2 at hy2'
              have e1 := hr' (by omega) z1 hy1'
              have e2 := hq' (by omega) z2 hy2'
              refine h12.swap E hl8.symm rfl rfl hy1' hy2' fun W13 h13 f13 => ?_
              rw [succ_w (a := r') (by omega), pred_w (a := q') (by omega) (by omega)]
              have hne' : r' ≠ q' := fun e => by subst e; rw [hy1'] at hy2'; cases hy2'; exact e1 e2
              have er' : (swp d2 r' q' z1 z2)[r']? = some z2 := swp_i (by omega) hne'
              have eq' : (swp d2 r' q' z1 z2)[q']? = some z1 := swp_j (by omega)
              refine hk _ _ _ ⟨r' + 1, q' - 1, _, rfl, rfl, h13, hsw8.step (by omega) (by omega) (by omega) (by omega) hy1' hy2', f12.trans f13, by omega, by omega, by omega, by rw [swp_o (by omega) (by omega)]; exact ha8, fun k y hk1 hk2 hy => ?_, fun k y hk1 hk2 hy => ?_⟩ (by omega)
              · by_cases hkr : k = r'
                · subst hkr; rw [er'] at hy; cases hy; exact e2
                · rw [swp_o hkr (by omega)] at hy; exact hlo9 k y hk1 (by omega) hy
              · by_cases hkq : k = q'
                · subst hkq; rw [eq'] at hy; cases hy; exact e1
                · rw [swp_o (by omega) hkq] at hy; exact hhi11 k y (by omega) hk2 hy
          refine If.dec (fun hle => ?_) fun hgt => ?_
          · have hy2' : d2[q']? = some (d2[q']'(by omega)) := List.getElem?_eq_getElem (by omega)
            generalize (d2[q']'(by omega)) = z2 at hy2'
            refine h11.cmpA E hl8.symm rfl rfl hy2' ha8 fun W12 h12 f12 => ?_
            by_cases hlt : cf z2 x < 0
            · rw [decide_eq_true hlt]
              exact fin2 W12 h12 (f11.trans f12) fun _ y hy => by rw [hy2'] at hy; cases hy; exact hlt
            · rw [decide_eq_false hlt, hJ3]
              refine If.pos rfl ?_
              rw [pred_w (a := q') (by omega) (by omega)]
              refine hk4 _ _ ⟨q' - 1, rfl, h12, f11.trans f12, by omega, by omega, fun k y hk1 hk2 hy => ?_⟩ (by omega)
              by_cases hkq : k = q'
              · subst hkq; rw [hy2'] at hy; cases hy; exact hlt
              · exact hhi11 k y (by omega) hk2 hy
          · intro W12 hb12
            exact fin2 W12 (h11.below E hb12) (f11.trans (frOf hb12)) fun hrq => by omega
        refine If.dec (fun hle => ?_) fun hgt => ?_
        · have hy1' : d2[r']? = some (d2[r']'(by omega)) := List.getElem?_eq_getElem (by omega)
          generalize (d2[r']'(by omega)) = z1 at hy1'
          refine h9.cmpA E hl8.symm rfl rfl hy1' ha8 fun W10 h10 f10 => ?_
          by_cases hlt : cf z1 x < 0
          · rw [decide_eq_true hlt, hJ2]
            refine If.pos rfl ?_
            rw [succ_w (a := r') (by omega)]
            refine hk3 _ _ ⟨r' + 1, rfl, h10, f9.trans f10, by omega, by omega, fun k y hk1 hk2 hy => ?_⟩ (by omega)
            by_cases hkr : k = r'
            · subst hkr; rw [hy1'] at hy; cases hy; exact hlt
            · exact hlo9 k y hk1 (by omega) hy
          · rw [decide_eq_false hlt]
            exact second2 W10 h10 (f9.trans f10) fun _ y hy => by rw [hy1'] at hy; cases hy; exact hlt
        · intro W10 hb10
          exact second2 W10 (h9.below E hb10) (f9.trans (frOf hb10)) fun hrv => by omega
    refine If.dec (fun hle => ?_) fun hgt => ?_
    · have hy2 : d1[q]? = some (d1[q]'(by omega)) := List.getElem?_eq_getElem (by omega)
      generalize (d1[q]'(by omega)) = y2 at hy2
      refine h5.cmpA E hl1.symm rfl rfl hy2 ha1 fun W6 h6 f6 => ?_
      by_cases hlt : cf y2 x < 0
      · rw [decide_eq_true hlt]
        exact fin W6 h6 (f5.trans f6) fun _ y hy => by rw [hy2] at hy; cases hy; exact hlt
      · rw [decide_eq_false hlt, hJ1]
        refine If.pos rfl ?_
        rw [pred_w (a := q) (by omega) (by omega)]
        refine hk2 _ _ ⟨q - 1, rfl, h6, f5.trans f6, by omega, by omega, fun k y hk1 hk2 hy => ?_⟩ (by omega)
        by_cases hkq : k = q
        · subst hkq; rw [hy2] at hy; cases hy; exact hlt
        · exact hhi5 k y (by omega) hk2 hy
    · intro W6 hb6
      exact fin W6 (h5.below E hb6) (f5.trans (frOf hb6)) fun hrq => by omega
  refine If.dec (fun hle => ?_) fun hgt => ?_
  · have hy1 : d1[r]? = some (d1[r]'(by omega)) := List.getElem?_eq_getElem (by omega)
    generalize (d1[r]'(by omega)) = y1 at hy1
    refine h3.cmpA E hl1.symm rfl rfl hy1 ha1 fun W4 h4 f4 => ?_
    by_cases hlt : cf y1 x < 0
    · rw [decide_eq_true hlt, hJ]
      refine If.pos rfl ?_
      rw [succ_w (a := r) (by omega)]
      refine hk1 _ _ ⟨r + 1, rfl, h4, f3.trans f4, by omega, by omega, fun k y hk1 hk2 hy => ?_⟩ (by omega)
      by_cases hkr : k = r
      · subst hkr; rw [hy1] at hy; cases hy; exact hlt
      · exact hlo3 k y hk1 (by omega) hy
    · rw [decide_eq_false hlt]
      exact second W4 h4 (f3.trans f4) fun _ y hy => by rw [hy1] at hy; cases hy; exact hlt
  · intro W4 hb4
    exact second W4 (h3.below E hb4) (f3.trans (frOf hb4)) fun hrv => by omega)
end
end Go.Proofs.Ytdfaocbpghjboaa.SrC
namespace Go.Proofs.Ytdfaocbpghjboaa.SrC
open Go Go.RowKit Go.Vc Go.Proofs.Ytdfaocbpghjboaa.Fs

section
variable {α : Type} {enc : α → List Value} {el : TypeId} {cf : α → α → Int} {fv : Value} {blk lim cap : Nat} {inv : World → Prop}
/-- What stands ahead of a range is below all of it. -/
def Ahead (cf : α → α → Int) (d : List α) (a b : Nat) : Prop := 0 < a → ∀ k x y, a ≤ k → k < b → d[k]? = some x → d[a - 1]? = some y → Le cf y x
theorem Ahead.sw {d e : List α} {a b : Nat} (h : Ahead cf d a b) (hs : Sw a b d e) : Ahead cf e a b := fun h0 k x y hk1 hk2 hx hy => by
  rw [hs.out (by omega)] at hy
  exact hs.all (p := fun z => Le cf y z) (fun k z h1 h2 hz => h h0 k z y h1 h2 hz hy) k x hk1 hk2 hx
/-- Sorted, but for what stands at j: and that is above nothing behind it. -/
def But (cf : α → α → Int) (d : List α) (a j e : Nat) : Prop := ∀ u v x y, a ≤ u → u < v → v < e → v ≠ j → d[u]? = some x → d[v]? = some y → Le cf x y
theorem But.srtd (O : TO cf) {d : List α} {a j e : Nat} (h : But cf d a j e) (hl : e ≤ d.length) (hj : a < j → ∀ x y, d[j - 1]? = some x → d[j]? = some y → Le cf x y) : Srtd cf d a e := fun u v x y hu huv hv hx hy => by
  by_cases hvj : v = j
  · subst hvj
    have hz : d[v - 1]? = some (d[v - 1]'(by omega)) := List.getElem?_eq_getElem (by omega)
    have h4 := hj (by omega) _ y hz hy
    by_cases huz : u = v - 1
    · subst huz; rw [hz] at hx; cases hx; exact h4
    · exact O.tr _ _ _ (h u (v - 1) x _ hu (by omega) (by omega) (by omega) hx hz) h4
  · exact h u v x y hu huv hv hvj hx hy
theorem But.swap (O : TO cf) {d : List α} {a j e : Nat} (h : But cf d a j e) (haj : a < j) (hje : j < e) {x y : α} (hx : d[j]? = some x) (hy : d[j - 1]? = some y) (hlt : cf x y < 0) : But cf (swp d j (j - 1) x y) a (j - 1) e := fun u v xx yy hu huv hv hvq hxx hyy => by
  have hjl := (List.getElem?_eq_some_iff.1 hx).1
  have hxy : Le cf x y := (O.tot x y).resolve_right (fun h => h hlt)
  have eq : (swp d j (j - 1) x y)[j]? = some y := swp_i (by omega) (by omega)
  have eq1 : (swp d j (j - 1) x y)[j - 1]? = some x := swp_j (by omega)
  by_cases hv1 : v = j
  · subst hv1
    rw [eq] at hyy; cases hyy
    by_cases hu1 : u = v - 1
    · subst hu1; rw [eq1] at hxx; cases hxx; exact hxy
    · rw [swp_o (by omega) (by omega)] at hxx
      exact h u (v - 1) _ _ hu (by omega) (by omega) (by omega) hxx hy
  · rw [swp_o hv1 hvq] at hyy
    by_cases hu1 : u = j
    · subst hu1; rw [eq] at hxx; cases hxx
      exact h (u - 1) v _ _ (by omega) (by omega) hv hv1 hy hyy
    · by_cases hu2 : u = j - 1
      · subst hu2; rw [eq1] at hxx; cases hxx
        exact h j v _ _ (by omega) (by omega) hv hv1 hx hyy
      · rw [swp_o hu1 hu2] at hxx
        exact h u v _ _ hu huv hv hv1 hxx hyy
theorem partial_gives (O : TO cf) (E : SE Try.prog enc 2 cf fv blk lim inv) {W : World} {d : List α} (h : SS enc 2 el blk lim cap inv W d) {a b : Nat} (hab : a + 12 < b) (hb : b ≤ d.length) (hd : d.length < 1099511627776) (hah : Ahead cf d a b) :
    Gives Try.prog 56 #[rw' blk d.length cap, ns a, ns b, fv] W fun v W' => ∃ (r : Bool) (d' : List α), v = .bool r ∧ SS enc 2 el blk lim cap inv W' d' ∧ Sw a b d d' ∧ Fr (Tn blk lim) W W' ∧ (r = true → Srtd cf d' a b) := F56_fn (by
  unfold F56
  rw [succ_w (a := a) (by omega)]
  refine Lp.enc (fun s : Int × Bool × Int => [.int .i64 s.1, .bool s.2.1, .int .i64 s.2.2]) (fun s t hst => by simp at hst; exact Prod.ext hst.1 (Prod.ext hst.2.1 hst.2.2))
    (fun s W' => ∃ (i j : Nat) (d' : List α), s.1 = (i : Int) ∧ s.2.2 = (j : Int) ∧ SS enc 2 el blk lim cap inv W' d' ∧ Sw a b d d' ∧ Fr (Tn blk lim) W W' ∧ a + 1 ≤ i ∧ i ≤ b ∧ Srtd cf d' a i) (fun s _ => (5 - s.2.2).toNat) (((a + 1 : Nat) : Int), false, 0) rfl
    ⟨a + 1, 0, d, rfl, rfl, h, .refl, Fr.refl _ _, by omega, by omega, fun p q x y h1 h2 h3 => by omega⟩ ?_
  rintro ⟨_, b8, _⟩ W1 k ⟨i, j, d1, rfl, rfl, h1, hsw1, f1, hi1, hi2, hs1⟩ hk
  refine AsI.mk (AsB.mk (AsI.mk (If.dec (fun hj5' => ?_) fun _ => ⟨false, d1, rfl, h1, hsw1, f1, fun h => by cases h⟩)))
  have hj5 : (j : Int) < 5 := hj5'
  refine Lp.i1 (fun x W' => ∃ (r : Nat), x = (r : Int) ∧ SS enc 2 el blk lim cap inv W' d1 ∧ Fr (Tn blk lim) W W' ∧ a + 1 ≤ r ∧ r ≤ b ∧ Srtd cf d1 a r) (fun x _ => ((b : Int) - x).toNat)
    ⟨i, rfl, h1, f1, hi1, hi2, hs1⟩ ?_
  rintro _ W2 k1 ⟨r, rfl, h2, f2, hr1, hr2, hs2⟩ hk1
  have hl1 := hsw1.len
  refine AsI.mk (Join.use fun J hJ => ?_)
  have stop : ∀ W3, SS enc 2 el blk lim cap inv W3 d1 → Fr (Tn blk lim) W W3 → J false W3 := by
    intro W3 h3 f3
    rw [hJ]
    refine If.neg rfl (If.beq (fun he => ?_) fun hne => If.dec (fun _ => ⟨false, d1, rfl, h3, hsw1, f3, fun h => by cases h⟩) fun _ => ?_)
    · have hrb : r = b := by omega
      exact ⟨true, d1, rfl, h3, hsw1, f3, fun _ => by rw [← hrb]; exact hs2⟩
    have hrb : r < b := by omega
    have hx : d1[r]? = some (d1[r]'(by omega)) := List.getElem?_eq_getElem (by omega)
    have hy : d1[r - 1]? = some (d1[r - 1]'(by omega)) := List.getElem?_eq_getElem (by omega)
    generalize (d1[r]'(by omega)) = x at hx
    generalize (d1[r - 1]'(by omega)) = y at hy
    rw [pred_w (a := r) (by omega) (by omega)]
    refine h3.swap E hl1.symm rfl rfl hx hy fun W4 h4 f4 => ?_
    have hsw4 : Sw a b d (swp d1 r (r - 1) x y) := hsw1.step (by omega) (by omega) (by omega) (by omega) hx hy
    have hw1 : IntKind.i64.wrap ((j : Int) + 1) = ((j + 1 : Nat) : Int) := succ_w (by omega)
    -- what follows the shift to the left
    refine Join.use fun J0 hJ0 => ?_
    have right : ∀ W5 (d5 : List α), SS enc 2 el blk lim cap inv W5 d5 → Sw a b d d5 → Fr (Tn blk lim) W W5 → Srtd cf d5 a r → J0 W5 := by
      intro W5 d5 h5 hsw5 f5 hs5
      rw [hJ0]
      refine Join.use fun J2 hJ2 => ?_
      have done : ∀ W6 (d6 : List α), SS enc 2 el blk lim cap inv W6 d6 → Sw a b d d6 → Fr (Tn blk lim) W W6 → Srtd cf d6 a r → J2 W6 := by
        intro W6 d6 h6 hsw6 f6 hs6
        rw [hJ2]
        show k [.int .i64 (r : Int), .bool b8, .int .i64 (IntKind.i64.wrap ((j : Int) + 1))] W6
        rw [hw1]
        exact hk ((r : Int), b8, ((j + 1 : Nat) : Int)) W6 ⟨r, j + 1, d6, rfl, rfl, h6, hsw6, f6, hr1, hr2, hs6⟩ (by simp only; omega)
      refine If.dec (fun _ => ?_) fun _ => done W5 d5 h5 hsw5 f5 hs5
      refine Join.use fun J3 hJ3 => ?_
      rw [succ_w (a := r) (by omega)]
      refine Lp.i1 (fun z W' => ∃ (q : Nat) (d' : List α), z = (q : Int) ∧ SS enc 2 el blk lim cap inv W' d' ∧ Sw a b d d' ∧ Fr (Tn blk lim) W W' ∧ r + 1 ≤ q ∧ Srtd cf d' a r) (fun z _ => ((b : Int) - z).toNat)
        ⟨r + 1, d5, rfl, h5, hsw5, f5, Nat.le_refl _, hs5⟩ ?_
      rintro _ W6 k6 ⟨q, d6, rfl, h6, hsw6, f6, hq1, hs6⟩ hk6
      have hl6 := hsw6.len
      refine AsI.mk (If.dec (fun hqb => ?_) fun _ => by rw [hJ3]; exact done W6 d6 h6 hsw6 f6 hs6)
      rw [pred_w (a := q) (by omega) (by omega)]
      have hx6 : d6[q]? = some (d6[q]'(by omega)) := List.getElem?_eq_getElem (by omega)
      have hy6 : d6[q - 1]? = some (d6[q - 1]'(by omega)) := List.getElem?_eq_getElem (by omega)
      generalize (d6[q]'(by omega)) = x6 at hx6
      generalize (d6[q - 1]'(by omega)) = y6 at hy6
      refine h6.cmpB E hl6.symm rfl rfl hx6 hy6 fun W7 h7 f7 => ?_
      refine If.split (fun _ => by rw [hJ3]; exact done W7 d6 h7 hsw6 (f6.trans f7) hs6) fun _ => ?_
      refine h7.swap E hl6.symm rfl rfl hx6 hy6 fun W8 h8 f8 => ?_
      rw [succ_w (a := q) (by omega)]
      exact hk6 _ _ ⟨q + 1, _, rfl, h8, hsw6.step (by omega) (by omega) (by omega) (by omega) hx6 hy6, (f6.trans f7).trans f8, by omega, fun u v xx yy hu huv hv hxx hyy => by
        rw [swp_o (by omega) (by omega)] at hxx hyy
        exact hs6 u v xx yy hu huv hv hxx hyy⟩ (by omega)
    have hf4 := f3.trans f4
    refine If.dec (fun _ => ?_) fun hn2 => right W4 _ h4 hsw4 hf4 (fun u v xx yy hu huv hv => by
      have : IntKind.i64.wrap ((r : Int) - (a : Int)) = ((r - a : Nat) : Int) := sub_w (by omega) (by omega)
      rw [this] at hn2
      omega)
    refine Join.use fun J4 hJ4 => ?_
    refine Lp.i1 (fun z W' => ∃ (q : Nat) (d' : List α), z = (q : Int) ∧ SS enc 2 el blk lim cap inv W' d' ∧ Sw a b d d' ∧ Fr (Tn blk lim) W W' ∧ a ≤ q ∧ q < r ∧ But cf d' a q r) (fun z _ => z.toNat)
      ⟨r - 1, _, rfl, h4, hsw4, hf4, by omega, by omega, fun u v xx yy hu huv hv hvr hxx hyy => by
        rw [swp_o (by omega) (by omega)] at hxx hyy
        exact hs2 u v xx yy hu huv (by omega) hxx hyy⟩ ?_
    rintro _ W6 k6 ⟨q, d6, rfl, h6, hsw6, f6, hq1, hq2, hB6⟩ hk6
    have hl6 := hsw6.len
    have out : ∀ W7, SS enc 2 el blk lim cap inv W7 d6 → Fr (Tn blk lim) W W7 → (a < q → ∀ x y, d6[q - 1]? = some x → d6[q]? = some y → Le cf x y) → J4 (q : Int) W7 := by
      intro W7 h7 f7 hj
      rw [hJ4]
      exact right W7 d6 h7 hsw6 f7 (hB6.srtd O (by omega) hj)
    refine AsI.mk (If.dec (fun hqb => ?_) fun _ => out W6 h6 f6 fun h => by omega)
    rw [pred_w (a := q) (by omega) (by omega)]
    have hx6 : d6[q]? = some (d6[q]'(by omega)) := List.getElem?_eq_getElem (by omega)
    have hy6 : d6[q - 1]? = some (d6[q - 1]'(by omega)) := List.getElem?_eq_getElem (by omega)
    generalize (d6[q]'(by omega)) = x6 at hx6
    generalize (d6[q - 1]'(by omega)) = y6 at hy6
    refine h6.cmpB E hl6.symm rfl rfl hx6 hy6 fun W7 h7 f7 => ?_
    by_cases hlt' : cf x6 y6 < 0
    · rw [decide_eq_true hlt']
      refine If.neg rfl ?_
      have hqa : a < q := by
        refine Classical.byContradiction fun hna => ?_
        have : q = a := by omega
        subst this
        exact (hah.sw hsw6) (by omega) q x6 y6 (Nat.le_refl _) (by omega) hx6 hy6 hlt'
      refine h7.swap E hl6.symm rfl rfl hx6 hy6 fun W8 h8 f8 => ?_
      exact hk6 _ _ ⟨q - 1, _, rfl, h8, hsw6.step (by omega) (by omega) (by omega) (by omega) hx6 hy6, (f6.trans f7).trans f8, by omega, by omega, hB6.swap O hqa hq2 hx6 hy6 hlt'⟩ (by omega)
    · rw [decide_eq_false hlt']
      refine If.pos rfl (out W7 h7 (f6.trans f7) fun _ x' y' hx' hy' => ?_)
      rw [hy6] at hx'; rw [hx6] at hy'; cases hx'; cases hy'
      exact hlt'
  refine If.dec (fun hlt => ?_) fun _ => ?_
  · rw [pred_w (a := r) (by omega) (by omega)]
    have hx : d1[r]? = some (d1[r]'(by omega)) := List.getElem?_eq_getElem (by omega)
    have hy : d1[r - 1]? = some (d1[r - 1]'(by omega)) := List.getElem?_eq_getElem (by omega)
    generalize (d1[r]'(by omega)) = x at hx
    generalize (d1[r - 1]'(by omega)) = y at hy
    refine h2.cmpA E hl1.symm rfl rfl hx hy fun W3 h3 f3 => ?_
    by_cases hlt' : cf x y < 0
    · rw [decide_eq_true hlt']
      exact stop W3 h3 (f2.trans f3)
    · rw [decide_eq_false hlt', hJ]
      refine If.pos rfl ?_
      rw [succ_w (a := r) (by omega)]
      refine hk1 _ _ ⟨r + 1, rfl, h3, f2.trans f3, by omega, by omega, ?_⟩ (by omega)
      refine But.srtd O (j := r) (fun u v xx yy hu huv hv hvr hxx hyy => hs2 u v xx yy hu huv (by omega) hxx hyy) (by omega) fun _ xx yy hxx hyy => ?_
      rw [hy] at hxx; rw [hx] at hyy; cases hxx; cases hyy
      exact hlt'
  · intro W3 hb3
    exact stop W3 (h2.below E hb3) (f2.trans (frOf hb3)))
end
end Go.Proofs.Ytdfaocbpghjboaa.SrC
namespace Go.Proofs.Ytdfaocbpghjboaa.SrC
open Go Go.RowKit Go.Vc Go.Proofs.Ytdfaocbpghjboaa.Fs Go.Proofs.Ytdfaocbpghjboaa.Cx

section
variable {α : Type} {enc : α → List Value} {el : TypeId} {cf : α → α → Int} {fv : Value} {blk lim cap : Nat} {inv : World → Prop}
/-- In order, but for what stands within a'..b'. -/
def Out (cf : α → α → Int) (d : List α) (a b a' b' : Nat) : Prop := ∀ p q x y, a ≤ p → p < q → q < b → ¬ (a' ≤ p ∧ q < b') → d[p]? = some x → d[q]? = some y → Le cf x y
theorem Out.sw {d e : List α} {a b a' b' : Nat} (h : Out cf d a b a' b') (hs : Sw a' b' d e) (ha : a ≤ a') (hb : b' ≤ b) (_ : b ≤ d.length) : Out cf e a b a' b' := fun p q x y hp hpq hq hn hx hy => by
  by_cases hpi : a' ≤ p ∧ p < b'
  · have hqo : b' ≤ q := by omega
    rw [hs.out (.inr hqo)] at hy
    exact hs.all (p := fun z => Le cf z y) (fun k z h1 h2 hz => h k q z y (by omega) (by omega) hq (by omega) hz hy) p x hpi.1 hpi.2 hx
  · rw [hs.out (by omega)] at hx
    by_cases hqi : a' ≤ q ∧ q < b'
    · exact hs.all (p := fun z => Le cf x z) (fun k z h1 h2 hz => h p k x z hp (by omega) (by omega) (by omega) hx hz) q y hqi.1 hqi.2 hy
    · rw [hs.out (by omega)] at hy
      exact h p q x y hp hpq hq hn hx hy
theorem Out.done {d : List α} {a b a' b' : Nat} (h : Out cf d a b a' b') (hs : Srtd cf d a' b') : Srtd cf d a b := fun p q x y hp hpq hq hx hy => by
  by_cases hin : a' ≤ p ∧ q < b'
  · exact hs p q x y hin.1 hpq hin.2 hx hy
  · exact h p q x y hp hpq hq hin hx hy
theorem Ahead.of_out {d : List α} {a b a' b' : Nat} (h0 : Ahead cf d a b) (h : Out cf d a b a' b') (ha : a ≤ a') (hb : b' ≤ b) : Ahead cf d a' b' := fun hp k x y hk1 hk2 hx hy => by
  by_cases he : a' = a
  · subst he; exact h0 hp k x y hk1 (by omega) hx hy
  · exact h (a' - 1) k y x (by omega) (by omega) (by omega) (by omega) hy hx
theorem Ahead.less {d : List α} {a b b' : Nat} (h : Ahead cf d a b) (hb : b' ≤ b) : Ahead cf d a b' := fun h0 k x y h1 h2 hx hy => h h0 k x y h1 (by omega) hx hy
theorem Part.swl {d e : List α} {a b mid : Nat} {x : α} (h : Part cf d a b mid x) (_ : a ≤ mid) (s : Sw a mid d e) : Part cf e a b mid x :=
  ⟨by rw [s.out (.inr (Nat.le_refl _))]; exact h.1, fun k y h1 h2 hy => s.all (p := fun z => cf z x < 0) (fun k z h1 h2 hz => h.2.1 k z h1 h2 hz) k y h1 h2 hy,
    fun k y h1 h2 hy => by rw [s.out (by omega)] at hy; exact h.2.2 k y h1 h2 hy⟩
theorem Part.swr {d e : List α} {a b mid : Nat} {x : α} (h : Part cf d a b mid x) (s : Sw (mid + 1) b d e) : Part cf e a b mid x :=
  ⟨by rw [s.out (by omega)]; exact h.1, fun k y h1 h2 hy => by rw [s.out (by omega)] at hy; exact h.2.1 k y h1 h2 hy,
    fun k y h1 h2 hy => s.all (p := fun z => ¬ cf z x < 0) (fun k z h1 h2 hz => h.2.2 k z (by omega) h2 hz) k y (by omega) h2 hy⟩
theorem lt_le (O : TO cf) {x y : α} (h : cf x y < 0) : Le cf x y := (O.tot x y).resolve_right (fun k => k h)
theorem Part.outl (O : TO cf) {d : List α} {a b mid : Nat} {x : α} (h : Part cf d a b mid x) (s : Srtd cf d a mid) : Out cf d a b (mid + 1) b := fun p q u v hp hpq hq hn hu hv => by
  rcases Nat.lt_trichotomy p mid with hpm | hpm | hpm
  · have hux := lt_le O (h.2.1 p u hp hpm hu)
    rcases Nat.lt_trichotomy q mid with hqm | hqm | hqm
    · exact s p q u v hp hpq hqm hu hv
    · subst hqm; rw [h.1] at hv; cases hv; exact hux
    · exact O.tr _ _ _ hux (h.2.2 q v hqm hq hv)
  · subst hpm; rw [h.1] at hu; cases hu; exact h.2.2 q v hpq hq hv
  · exact absurd ⟨hpm, hq⟩ hn
theorem Part.outr (O : TO cf) {d : List α} {a b mid : Nat} {x : α} (h : Part cf d a b mid x) (s : Srtd cf d (mid + 1) b) : Out cf d a b a mid := fun p q u v hp hpq hq hn hu hv => by
  rcases Nat.lt_trichotomy q mid with hqm | hqm | hqm
  · exact absurd ⟨hp, hqm⟩ hn
  · subst hqm; rw [h.1] at hv; cases hv; exact lt_le O (h.2.1 p u hp hpq hu)
  · have hxv := h.2.2 q v hqm hq hv
    rcases Nat.lt_trichotomy p mid with hpm | hpm | hpm
    · exact O.tr _ _ _ (lt_le O (h.2.1 p u hp hpm hu)) hxv
    · subst hpm; rw [h.1] at hu; cases hu; exact hxv
    · exact s p q u v hpm hpq hq hu hv
theorem pdq_gives (O : TO cf) (E : SE Try.prog enc 2 cf fv blk lim inv) : ∀ (n a b : Nat) (d : List α) (W : World) (limit : Int), b - a ≤ n → a ≤ b → b ≤ d.length → d.length < 1099511627776 → SS enc 2 el blk lim cap inv W d → Ahead cf d a b →
    Gives Try.prog 47 #[rw' blk d.length cap, ns a, ns b, .int .i64 limit, fv] W fun v W' => v = .tuple #[] ∧ ∃ d', SS enc 2 el blk lim cap inv W' d' ∧ Sw a b d d' ∧ Fr (Tn blk lim) W W' ∧ Srtd cf d' a b := by
  intro n
  induction n using Nat.strongRecOn with
  | _ n ih =>
  intro a b d W limit hn hab hb hd h hah
  refine F47_fn ?_
  unfold F47
  refine Lp.enc (fun s : Int × Bool × Int × Bool × Int => [.int .i64 s.1, .bool s.2.1, .int .i64 s.2.2.1, .bool s.2.2.2.1, .int .i64 s.2.2.2.2])
    (fun s t hst => by simp at hst; exact Prod.ext hst.1 (Prod.ext hst.2.1 (Prod.ext hst.2.2.1 (Prod.ext hst.2.2.2.1 hst.2.2.2.2))))
    (fun s W' => ∃ (a' b' : Nat) (d' : List α), s.2.2.1 = (a' : Int) ∧ s.2.2.2.2 = (b' : Int) ∧ SS enc 2 el blk lim cap inv W' d' ∧ Sw a b d d' ∧ Fr (Tn blk lim) W W' ∧ a ≤ a' ∧ a' ≤ b' ∧ b' ≤ b ∧ Out cf d' a b a' b') (fun s _ => (s.2.2.2.2 - s.2.2.1).toNat) (limit, true, (a : Int), true, (b : Int)) rfl
    ⟨a, b, d, rfl, rfl, h, .refl, Fr.refl _ _, Nat.le_refl _, hab, Nat.le_refl _, fun p q x y hp hpq hq hn => by omega⟩ ?_
  rintro ⟨lm, b11, _, b10, _⟩ W1 k ⟨a', b', d1, rfl, rfl, h1, hsw1, f1, ha1, hab1, hb1, hO1⟩ hk
  have hl1 := hsw1.len
  have hah1 : Ahead cf d1 a' b' := (hah.sw hsw1).of_out hO1 ha1 hb1
  refine AsI.mk (AsB.mk (AsI.mk (AsB.mk (AsI.mk (Join.use fun J hJ => ?_)))))
  have hlb : b' ≤ d1.length := by omega
  have hdl : d1.length < 1099511627776 := by omega
  have fin : ∀ W2 d2, SS enc 2 el blk lim cap inv W2 d2 → Sw a' b' d1 d2 → Fr (Tn blk lim) W W2 → Srtd cf d2 a' b' →
      (Value.tuple #[] = .tuple #[] ∧ ∃ d', SS enc 2 el blk lim cap inv W2 d' ∧ Sw a b d d' ∧ Fr (Tn blk lim) W W2 ∧ Srtd cf d' a b) := fun W2 d2 h2 s2 f2 o2 =>
    ⟨rfl, d2, h2, hsw1.trans (s2.mono ha1 hb1), f2, (hO1.sw s2 ha1 hb1 (by omega)).done o2⟩
  have goOn : ∀ (a2 b2 : Nat) (d2 : List α) (lm2 : Int) (c10 c11 : Bool) (W2 : World), SS enc 2 el blk lim cap inv W2 d2 → Sw a' b' d1 d2 → Fr (Tn blk lim) W W2 → a' ≤ a2 → a2 ≤ b2 → b2 ≤ b' → b2 - a2 < b' - a' → Out cf d2 a' b' a2 b2 →
      J (a2 : Int) (b2 : Int) lm2 c10 c11 W2 := by
    intro a2 b2 d2 lm2 c10 c11 W2 h2 s2 f2 q1 q2 q3 q4 o2
    rw [hJ]
    refine hk (lm2, c11, (a2 : Int), c10, (b2 : Int)) W2 ⟨a2, b2, d2, rfl, rfl, h2, hsw1.trans (s2.mono ha1 hb1), f2, by omega, q2, by omega, fun p q x y hp hpq hq hn hx hy => ?_⟩ (by simp only; omega)
    by_cases hin : a' ≤ p ∧ q < b'
    · exact o2 p q x y hin.1 hpq hin.2 hn hx hy
    · exact (hO1.sw s2 ha1 hb1 (by omega)) p q x y hp hpq hq hin hx hy
  rw [sub_w hab1 (by omega)]
  refine If.dec (fun hle => ?_) fun hgt => ?_
  · have g := insertion_gives O E h1 (a := a') (b := b') hlb hab1 hdl
    rw [hl1] at g
    refine CallK.mk g ?_
    rintro _ W2 ⟨rfl, d2, h2, s2, f2, o2⟩
    exact fin W2 d2 h2 s2 (f1.trans f2) o2
  have h12 : a' + 12 < b' := by omega
  refine If.beq (fun _ => ?_) fun _ => ?_
  · have g := heapsort_gives O E h1 (a := a') (b := b') (by omega) hlb hdl
    rw [hl1] at g
    refine CallK.mk g ?_
    rintro _ W2 ⟨rfl, d2, h2, s2, f2, o2⟩
    exact fin W2 d2 h2 s2 (f1.trans f2) o2
  refine Join.use fun J1 hJ1 => ?_
  have step : ∀ (lm2 : Int) (W2 : World) (d2 : List α), SS enc 2 el blk lim cap inv W2 d2 → Sw a' b' d1 d2 → Fr (Tn blk lim) W W2 → J1 lm2 W2 := by
    intro lm2 W2 d2 h2 s2 f2
    have hl2 := s2.len
    rw [hJ1]
    have g := pivot_gives E h2 (a := a') (b := b') h12 (by omega) (by omega)
    rw [hl2.trans hl1] at g
    refine CallK.mk g ?_
    rintro _ W3 ⟨k0, hint, rfl, hk1, hk2, h3, f3⟩
    refine ⟨_, _, rfl, _, rfl, _, rfl, ?_⟩
    refine Join.use fun J2 hJ2 => ?_
    have rev : ∀ (pv : Nat) (hi2 : Int) (W4 : World) (d4 : List α), SS enc 2 el blk lim cap inv W4 d4 → Sw a' b' d1 d4 → Fr (Tn blk lim) W W4 → a' ≤ pv → pv < b' → J2 (pv : Int) hi2 W4 := by
      intro pv hi2 W4 d4 h4 s4 f4 p1 p2
      rw [hJ2]
      refine Join.use fun J3 hJ3 => ?_
      have all3 : ∀ b71, J3 b71 W4 := by
        intro b71
        rw [hJ3]
        refine Join.use fun J4 hJ4 => ?_
        have all4 : ∀ b75, J4 b75 W4 := by
          intro b75
          rw [hJ4]
          refine Join.use fun J5 hJ5 => ?_
          have all5 : ∀ (W5 : World) (d5 : List α), SS enc 2 el blk lim cap inv W5 d5 → Sw a' b' d1 d5 → Fr (Tn blk lim) W W5 → J5 W5 := by
            intro W5 d5 h5 s5 f5
            have hl5 := s5.len
            have hah5 : Ahead cf d5 a' b' := hah1.sw s5
            rw [hJ5]
            refine Join.use fun J6 hJ6 => ?_
            have hxp : d5[pv]? = some (d5[pv]'(by omega)) := List.getElem?_eq_getElem (by omega)
            generalize (d5[pv]'(by omega)) = x at hxp
            have part : ∀ W6, SS enc 2 el blk lim cap inv W6 d5 → Fr (Tn blk lim) W W6 → J6 false W6 := by
              intro W6 h6 f6
              rw [hJ6]
              refine If.neg rfl ?_
              have g := part_gives E h6 (a := a') (b := b') (p := pv) p1 p2 (by omega) (by omega) hxp
              rw [hl5.trans hl1] at g
              refine CallK.mk g ?_
              rintro _ W7 ⟨mid, d7, al, rfl, m1, m2, h7, s7, f7, hP⟩
              refine ⟨_, _, rfl, _, rfl, _, rfl, by decide, Join.use fun J7 hJ7 => ?_⟩
              have hl7 := s7.len
              have s17 := s5.trans s7
              have f17 := f6.trans f7
              refine If.dec (fun _ => ?_) fun _ => ?_
              · have g := ih (mid - a') (by omega) a' mid d7 W7 lm2 (Nat.le_refl _) m1 (by omega) (by omega) h7 ((hah1.sw s17).less (by omega))
                rw [hl7.trans (hl5.trans hl1)] at g
                refine CallK.mk g ?_
                rintro _ W8 ⟨rfl, d8, h8, s8, f8, o8⟩
                rw [hJ7, succ_w (a := mid) (by omega)]
                exact goOn (mid + 1) b' d8 _ _ _ W8 h8 (s17.trans (s8.mono (Nat.le_refl _) (by omega))) (f17.trans f8) (by omega) (by omega) (Nat.le_refl _) (by omega) ((hP.swl m1 s8).outl O o8)
              · have g := ih (b' - (mid + 1)) (by omega) (mid + 1) b' d7 W7 lm2 (Nat.le_refl _) (by omega) (by omega) (by omega) h7 (fun _ k u v hk1 hk2 hu hv => by
                  rw [Nat.add_sub_cancel, hP.1] at hv; cases hv; exact hP.2.2 k u (by omega) hk2 hu)
                rw [hl7.trans (hl5.trans hl1)] at g
                rw [succ_w (a := mid) (by omega)]
                refine CallK.mk g ?_
                rintro _ W8 ⟨rfl, d8, h8, s8, f8, o8⟩
                rw [hJ7]
                exact goOn a' mid d8 _ _ _ W8 h8 (s17.trans (s8.mono (by omega) (Nat.le_refl _))) (f17.trans f8) (Nat.le_refl _) m1 (by omega) (by omega) ((hP.swr s8).outr O o8)
            refine If.dec (fun ha0' => ?_) fun _ => ?_
            · have ha0 : (0 : Int) < (a' : Int) := ha0'
              have hy : d5[a' - 1]? = some (d5[a' - 1]'(by omega)) := List.getElem?_eq_getElem (by omega)
              generalize (d5[a' - 1]'(by omega)) = y at hy
              rw [pred_w (a := a') (by omega) (by omega)]
              refine h5.cmpA E (hl5.trans hl1).symm rfl rfl hy hxp fun W6 h6 f6 => ?_
              by_cases hlt : cf y x < 0
              · rw [decide_eq_true hlt]
                exact part W6 h6 (f5.trans f6)
              · rw [decide_eq_false hlt, hJ6]
                refine If.pos rfl ?_
                have g := parteq_gives E h6 (a := a') (b := b') (p := pv) p1 p2 (by omega) (by omega) hxp (by rcases O.tot x x with h | h <;> exact h)
                rw [hl5.trans hl1] at g
                refine CallK.mk g ?_
                rintro _ W7 ⟨mid, d7, rfl, m1, m2, h7, s7, f7, hlo, hhi⟩
                refine ⟨_, rfl, ?_⟩
                have hah7 := hah5.sw s7
                have hy7 : d7[a' - 1]? = some y := by rw [s7.out (by omega)]; exact hy
                refine goOn mid b' d7 _ _ _ W7 h7 (s5.trans s7) ((f5.trans f6).trans f7) (by omega) m2 (Nat.le_refl _) (by omega) fun p q u v hp hpq hq hn hu hv => ?_
                have hpm : p < mid := by omega
                have hux : Le cf u x := hlo p u hp hpm hu
                by_cases hqm : q < mid
                · exact O.tr _ _ _ hux (O.tr _ _ _ hlt (hah7 (by omega) q v y (by omega) (by omega) hv hy7))
                · exact O.tr _ _ _ hux (lt_le O (hhi q v (by omega) hq hv))
            · intro W6 hb6
              exact part W6 (h5.below E hb6) (f5.trans (frOf hb6))
          refine If.split (fun _ => ?_) fun _ => all5 W4 d4 h4 s4 f4
          have hl4 := s4.len
          have g := partial_gives O E h4 (a := a') (b := b') h12 (by omega) (by omega) (hah1.sw s4)
          rw [hl4.trans hl1] at g
          refine CallK.mk g ?_
          rintro _ W5 ⟨r, d5, rfl, h5, s5, f5, o5⟩
          refine ⟨_, rfl, If.split (fun hr => ?_) fun _ => all5 W5 d5 h5 (s4.trans s5) (f4.trans f5)⟩
          exact fin W5 d5 h5 (s4.trans s5) (f4.trans f5) (o5 hr)
        exact If.split (fun _ => all4 _) fun _ => all4 _
      exact If.split (fun _ => all3 _) fun _ => all3 _
    refine If.beq (fun _ => ?_) fun _ => rev k0 hint W3 d2 h3 s2 (f2.trans f3) hk1 hk2
    have g := reverse_gives E h3 (a := a') (b := b') (by omega) (by omega) (by omega)
    rw [hl2.trans hl1] at g
    refine CallK.mk g ?_
    rintro _ W4 ⟨rfl, d4, h4, s4, f4⟩
    rw [pred_w (a := b') (by omega) (by omega), sub_w hk1 (by omega), sub_w (a := k0 - a') (b := b' - 1) (by omega) (by omega)]
    exact rev _ _ W4 d4 h4 (s2.trans s4) ((f2.trans f3).trans f4) (by omega) (by omega)
  refine If.split (fun _ => ?_) fun _ => step _ W1 d1 h1 .refl f1
  have g := break_gives E h1 (a := a') (b := b') h12 hlb hdl
  rw [hl1] at g
  refine CallK.mk g ?_
  rintro _ W2 ⟨rfl, d2, h2, s2, f2⟩
  exact step _ W2 d2 h2 s2 (f1.trans f2)
theorem sort_gives (O : TO cf) (E : SE Try.prog enc 2 cf fv blk lim inv) {W : World} {d : List α} (h : SS enc 2 el blk lim cap inv W d) (hd : d.length < 1099511627776) :
    Gives Try.prog 41 #[rw' blk d.length cap, fv] W fun v W' => v = .tuple #[] ∧ ∃ d', SS enc 2 el blk lim cap inv W' d' ∧ d'.Perm d ∧ Fr (Tn blk lim) W W' ∧ Srtd cf d' 0 d.length := F41_fn (by
  unfold F41
  rw [wrap_u64 (by omega) (by omega)]
  refine CallK.mk (len_gives d.length (by omega) W) ?_
  rintro _ _ ⟨rfl, n, rfl, _⟩
  refine ⟨_, rfl, ?_⟩
  refine CallK.mk (pdq_gives O E d.length 0 d.length d _ _ (by omega) (by omega) (Nat.le_refl _) hd h (fun h => by omega)) ?_
  rintro _ W2 ⟨rfl, d2, h2, s2, f2, o2⟩
  exact ⟨rfl, d2, h2, s2.perm, f2, o2⟩)
end
end Go.Proofs.Ytdfaocbpghjboaa.SrC
