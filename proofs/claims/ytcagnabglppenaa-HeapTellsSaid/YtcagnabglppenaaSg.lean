/- Sorting items: insertion where little is out of order. -/
import Derived.Test.YtcagnabglppenaaSf
namespace Go.Proofs.Ytcagnabglppenaa.Sr
open Go Go.RowKit Go.Vc Go.Proofs.Ytcagnabglppenaa.Fs

section
variable {α : Type} {enc : α → List Value} {el : TypeId} {cf : α → α → Int} {fv : Value} {blk lim cap : Nat} {inv : World → Prop}
/-- What stands ahead of a range is below all of it. -/
def Ahead (cf : α → α → Int) (d : List α) (a b : Nat) : Prop := 0 < a → ∀ k x y, a ≤ k → k < b → d[k]? = some x → d[a - 1]? = some y → Le cf y x
theorem Ahead.sw {d e : List α} {a b : Nat} (h : Ahead cf d a b) (hs : Sw a b d e) : Ahead cf e a b := fun h0 k x y hk1 hk2 hx hy => by
  rw [hs.out (by omega)] at hy
  exact hs.all (p := fun z => Le cf y z) (fun k z h1 h2 hz => h h0 k z y h1 h2 hz hy) k x hk1 hk2 hx
/-- Sorted, but for what stands at j: and that is above nothing behind it. -/
def But (cf : α → α → Int) (d : List α) (a j e : Nat) : Prop := ∀ u v x y, a ≤ u → u < v → v < e → v ≠ j → d[u]? = some x → d[v]? = some y → Le cf x y
theorem But.srtd (O : TO cf) {d : List α} {a j e : Nat} (h : But cf d a j e) (hl : e ≤ d.length) (hj : a < j → ∀ x y, d[j - 1]? = some x → d[j]? = some y → Le cf x y) : Srtd cf d a e := fun u v x y hu huv hv hx hy => by
  by_cases hvj : v = j
  · subst hvj
    have hz : d[v - 1]? = some (d[v - 1]'(by omega)) := List.getElem?_eq_getElem (by omega)
    have h4 := hj (by omega) _ y hz hy
    by_cases huz : u = v - 1
    · subst huz; rw [hz] at hx; cases hx; exact h4
    · exact O.tr _ _ _ (h u (v - 1) x _ hu (by omega) (by omega) (by omega) hx hz) h4
  · exact h u v x y hu huv hv hvj hx hy
theorem But.swap (O : TO cf) {d : List α} {a j e : Nat} (h : But cf d a j e) (haj : a < j) (hje : j < e) {x y : α} (hx : d[j]? = some x) (hy : d[j - 1]? = some y) (hlt : cf x y < 0) : But cf (swp d j (j - 1) x y) a (j - 1) e := fun u v xx yy hu huv hv hvq hxx hyy => by
  have hjl := (List.getElem?_eq_some_iff.1 hx).1
  have hxy : Le cf x y := (O.tot x y).resolve_right (fun h => h hlt)
  have eq : (swp d j (j - 1) x y)[j]? = some y := swp_i (by omega) (by omega)
  have eq1 : (swp d j (j - 1) x y)[j - 1]? = some x := swp_j (by omega)
  by_cases hv1 : v = j
  · subst hv1
    rw [eq] at hyy; cases hyy
    by_cases hu1 : u = v - 1
    · subst hu1; rw [eq1] at hxx; cases hxx; exact hxy
    · rw [swp_o (by omega) (by omega)] at hxx
      exact h u (v - 1) _ _ hu (by omega) (by omega) (by omega) hxx hy
  · rw [swp_o hv1 hvq] at hyy
    by_cases hu1 : u = j
    · subst hu1; rw [eq] at hxx; cases hxx
      exact h (u - 1) v _ _ (by omega) (by omega) hv hv1 hy hyy
    · by_cases hu2 : u = j - 1
      · subst hu2; rw [eq1] at hxx; cases hxx
        exact h j v _ _ (by omega) (by omega) hv hv1 hx hyy
      · rw [swp_o hu1 hu2] at hxx
        exact h u v _ _ hu huv hv hv1 hxx hyy
theorem partial_gives (O : TO cf) (E : SE Try.prog enc 2 cf fv blk lim inv) {W : World} {d : List α} (h : SS enc 2 el blk lim cap inv W d) {a b : Nat} (hab : a + 12 < b) (hb : b ≤ d.length) (hd : d.length < 1099511627776) (hah : Ahead cf d a b) :
    Gives Try.prog 163 #[rw' blk d.length cap, ns a, ns b, fv] W fun v W' => ∃ (r : Bool) (d' : List α), v = .bool r ∧ SS enc 2 el blk lim cap inv W' d' ∧ Sw a b d d' ∧ Fr (Tn blk lim) W W' ∧ (r = true → Srtd cf d' a b) := F163_fn (by
  unfold F163
  rw [succ_w (a := a) (by omega)]
  refine Lp.enc (fun s : Int × Bool × Int => [.int .i64 s.1, .bool s.2.1, .int .i64 s.2.2]) (fun s t hst => by simp at hst; exact Prod.ext hst.1 (Prod.ext hst.2.1 hst.2.2))
    (fun s W' => ∃ (i j : Nat) (d' : List α), s.1 = (i : Int) ∧ s.2.2 = (j : Int) ∧ SS enc 2 el blk lim cap inv W' d' ∧ Sw a b d d' ∧ Fr (Tn blk lim) W W' ∧ a + 1 ≤ i ∧ i ≤ b ∧ Srtd cf d' a i) (fun s _ => (5 - s.2.2).toNat) (((a + 1 : Nat) : Int), false, 0) rfl
    ⟨a + 1, 0, d, rfl, rfl, h, .refl, Fr.refl _ _, by omega, by omega, fun p q x y h1 h2 h3 => by omega⟩ ?_
  rintro ⟨_, b8, _⟩ W1 k ⟨i, j, d1, rfl, rfl, h1, hsw1, f1, hi1, hi2, hs1⟩ hk
  refine AsI.mk (AsB.mk (AsI.mk (If.dec (fun hj5' => ?_) fun _ => ⟨false, d1, rfl, h1, hsw1, f1, fun h => by cases h⟩)))
  have hj5 : (j : Int) < 5 := hj5'
  refine Lp.i1 (fun x W' => ∃ (r : Nat), x = (r : Int) ∧ SS enc 2 el blk lim cap inv W' d1 ∧ Fr (Tn blk lim) W W' ∧ a + 1 ≤ r ∧ r ≤ b ∧ Srtd cf d1 a r) (fun x _ => ((b : Int) - x).toNat)
    ⟨i, rfl, h1, f1, hi1, hi2, hs1⟩ ?_
  rintro _ W2 k1 ⟨r, rfl, h2, f2, hr1, hr2, hs2⟩ hk1
  have hl1 := hsw1.len
  refine AsI.mk (Join.use fun J hJ => ?_)
  have stop : ∀ W3, SS enc 2 el blk lim cap inv W3 d1 → Fr (Tn blk lim) W W3 → J false W3 := by
    intro W3 h3 f3
    rw [hJ]
    refine If.neg rfl (If.beq (fun he => ?_) fun hne => If.dec (fun _ => ⟨false, d1, rfl, h3, hsw1, f3, fun h => by cases h⟩) fun _ => ?_)
    · have hrb : r = b := by omega
      exact ⟨true, d1, rfl, h3, hsw1, f3, fun _ => by rw [← hrb]; exact hs2⟩
    have hrb : r < b := by omega
    have hx : d1[r]? = some (d1[r]'(by omega)) := List.getElem?_eq_getElem (by omega)
    have hy : d1[r - 1]? = some (d1[r - 1]'(by omega)) := List.getElem?_eq_getElem (by omega)
    generalize (d1[r]'(by omega)) = x at hx
    generalize (d1[r - 1]'(by omega)) = y at hy
    rw [pred_w (a := r) (by omega) (by omega)]
    refine h3.swap E hl1.symm rfl rfl hx hy fun W4 h4 f4 => ?_
    have hsw4 : Sw a b d (swp d1 r (r - 1) x y) := hsw1.step (by omega) (by omega) (by omega) (by omega) hx hy
    have hw1 : IntKind.i64.wrap ((j : Int) + 1) = ((j + 1 : Nat) : Int) := succ_w (by omega)
    -- what follows the shift to the left
    refine Join.use fun J0 hJ0 => ?_
    have right : ∀ W5 (d5 : List α), SS enc 2 el blk lim cap inv W5 d5 → Sw a b d d5 → Fr (Tn blk lim) W W5 → Srtd cf d5 a r → J0 W5 := by
      intro W5 d5 h5 hsw5 f5 hs5
      rw [hJ0]
      refine Join.use fun J2 hJ2 => ?_
      have done : ∀ W6 (d6 : List α), SS enc 2 el blk lim cap inv W6 d6 → Sw a b d d6 → Fr (Tn blk lim) W W6 → Srtd cf d6 a r → J2 W6 := by
        intro W6 d6 h6 hsw6 f6 hs6
        rw [hJ2]
        show k [.int .i64 (r : Int), .bool b8, .int .i64 (IntKind.i64.wrap ((j : Int) + 1))] W6
        rw [hw1]
        exact hk ((r : Int), b8, ((j + 1 : Nat) : Int)) W6 ⟨r, j + 1, d6, rfl, rfl, h6, hsw6, f6, hr1, hr2, hs6⟩ (by simp only; omega)
      refine If.dec (fun _ => ?_) fun _ => done W5 d5 h5 hsw5 f5 hs5
      refine Join.use fun J3 hJ3 => ?_
      rw [succ_w (a := r) (by omega)]
      refine Lp.i1 (fun z W' => ∃ (q : Nat) (d' : List α), z = (q : Int) ∧ SS enc 2 el blk lim cap inv W' d' ∧ Sw a b d d' ∧ Fr (Tn blk lim) W W' ∧ r + 1 ≤ q ∧ Srtd cf d' a r) (fun z _ => ((b : Int) - z).toNat)
        ⟨r + 1, d5, rfl, h5, hsw5, f5, Nat.le_refl _, hs5⟩ ?_
      rintro _ W6 k6 ⟨q, d6, rfl, h6, hsw6, f6, hq1, hs6⟩ hk6
      have hl6 := hsw6.len
      refine AsI.mk (If.dec (fun hqb => ?_) fun _ => by rw [hJ3]; exact done W6 d6 h6 hsw6 f6 hs6)
      rw [pred_w (a := q) (by omega) (by omega)]
      have hx6 : d6[q]? = some (d6[q]'(by omega)) := List.getElem?_eq_getElem (by omega)
      have hy6 : d6[q - 1]? = some (d6[q - 1]'(by omega)) := List.getElem?_eq_getElem (by omega)
      generalize (d6[q]'(by omega)) = x6 at hx6
      generalize (d6[q - 1]'(by omega)) = y6 at hy6
      refine h6.cmpB E hl6.symm rfl rfl hx6 hy6 fun W7 h7 f7 => ?_
      refine If.split (fun _ => by rw [hJ3]; exact done W7 d6 h7 hsw6 (f6.trans f7) hs6) fun _ => ?_
      refine h7.swap E hl6.symm rfl rfl hx6 hy6 fun W8 h8 f8 => ?_
      rw [succ_w (a := q) (by omega)]
      exact hk6 _ _ ⟨q + 1, _, rfl, h8, hsw6.step (by omega) (by omega) (by omega) (by omega) hx6 hy6, (f6.trans f7).trans f8, by omega, fun u v xx yy hu huv hv hxx hyy => by
        rw [swp_o (by omega) (by omega)] at hxx hyy
        exact hs6 u v xx yy hu huv hv hxx hyy⟩ (by omega)
    have hf4 := f3.trans f4
    refine If.dec (fun _ => ?_) fun hn2 => right W4 _ h4 hsw4 hf4 (fun u v xx yy hu huv hv => by
      have : IntKind.i64.wrap ((r : Int) - (a : Int)) = ((r - a : Nat) : Int) := sub_w (by omega) (by omega)
      rw [this] at hn2
      omega)
    refine Join.use fun J4 hJ4 => ?_
    refine Lp.i1 (fun z W' => ∃ (q : Nat) (d' : List α), z = (q : Int) ∧ SS enc 2 el blk lim cap inv W' d' ∧ Sw a b d d' ∧ Fr (Tn blk lim) W W' ∧ a ≤ q ∧ q < r ∧ But cf d' a q r) (fun z _ => z.toNat)
      ⟨r - 1, _, rfl, h4, hsw4, hf4, by omega, by omega, fun u v xx yy hu huv hv hvr hxx hyy => by
        rw [swp_o (by omega) (by omega)] at hxx hyy
        exact hs2 u v xx yy hu huv (by omega) hxx hyy⟩ ?_
    rintro _ W6 k6 ⟨q, d6, rfl, h6, hsw6, f6, hq1, hq2, hB6⟩ hk6
    have hl6 := hsw6.len
    have out : ∀ W7, SS enc 2 el blk lim cap inv W7 d6 → Fr (Tn blk lim) W W7 → (a < q → ∀ x y, d6[q - 1]? = some x → d6[q]? = some y → Le cf x y) → J4 (q : Int) W7 := by
      intro W7 h7 f7 hj
      rw [hJ4]
      exact right W7 d6 h7 hsw6 f7 (hB6.srtd O (by omega) hj)
    refine AsI.mk (If.dec (fun hqb => ?_) fun _ => out W6 h6 f6 fun h => by omega)
    rw [pred_w (a := q) (by omega) (by omega)]
    have hx6 : d6[q]? = some (d6[q]'(by omega)) := List.getElem?_eq_getElem (by omega)
    have hy6 : d6[q - 1]? = some (d6[q - 1]'(by omega)) := List.getElem?_eq_getElem (by omega)
    generalize (d6[q]'(by omega)) = x6 at hx6
    generalize (d6[q - 1]'(by omega)) = y6 at hy6
    refine h6.cmpB E hl6.symm rfl rfl hx6 hy6 fun W7 h7 f7 => ?_
    by_cases hlt' : cf x6 y6 < 0
    · rw [decide_eq_true hlt']
      refine If.neg rfl ?_
      have hqa : a < q := by
        refine Classical.byContradiction fun hna => ?_
        have : q = a := by omega
        subst this
        exact (hah.sw hsw6) (by omega) q x6 y6 (Nat.le_refl _) (by omega) hx6 hy6 hlt'
      refine h7.swap E hl6.symm rfl rfl hx6 hy6 fun W8 h8 f8 => ?_
      exact hk6 _ _ ⟨q - 1, _, rfl, h8, hsw6.step (by omega) (by omega) (by omega) (by omega) hx6 hy6, (f6.trans f7).trans f8, by omega, by omega, hB6.swap O hqa hq2 hx6 hy6 hlt'⟩ (by omega)
    · rw [decide_eq_false hlt']
      refine If.pos rfl (out W7 h7 (f6.trans f7) fun _ x' y' hx' hy' => ?_)
      rw [hy6] at hx'; rw [hx6] at hy'; cases hx'; cases hy'
      exact hlt'
  refine If.dec (fun hlt => ?_) fun _ => ?_
  · rw [pred_w (a := r) (by omega) (by omega)]
    have hx : d1[r]? = some (d1[r]'(by omega)) := List.getElem?_eq_getElem (by omega)
    have hy : d1[r - 1]? = some (d1[r - 1]'(by omega)) := List.getElem?_eq_getElem (by omega)
    generalize (d1[r]'(by omega)) = x at hx
    generalize (d1[r - 1]'(by omega)) = y at hy
    refine h2.cmpA E hl1.symm rfl rfl hx hy fun W3 h3 f3 => ?_
    by_cases hlt' : cf x y < 0
    · rw [decide_eq_true hlt']
      exact stop W3 h3 (f2.trans f3)
    · rw [decide_eq_false hlt', hJ]
      refine If.pos rfl ?_
      rw [succ_w (a := r) (by omega)]
      refine hk1 _ _ ⟨r + 1, rfl, h3, f2.trans f3, by omega, by omega, ?_⟩ (by omega)
      refine But.srtd O (j := r) (fun u v xx yy hu huv hv hvr hxx hyy => hs2 u v xx yy hu huv (by omega) hxx hyy) (by omega) fun _ xx yy hxx hyy => ?_
      rw [hy] at hxx; rw [hx] at hyy; cases hxx; cases hyy
      exact hlt'
  · intro W3 hb3
    exact stop W3 (h2.below E hb3) (f2.trans (frOf hb3)))
end
end Go.Proofs.Ytcagnabglppenaa.Sr
