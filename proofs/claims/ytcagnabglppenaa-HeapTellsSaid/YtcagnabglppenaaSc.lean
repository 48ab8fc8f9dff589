/- Sorting items: heap sort; lengths in bits; broken patterns. -/
import Derived.Test.YtcagnabglppenaaSb
namespace Go.Proofs.Ytcagnabglppenaa.Sr
open Go Go.RowKit Go.Vc Go.Proofs.Ytcagnabglppenaa.Fs

section
variable {α : Type} {enc : α → List Value} {el : TypeId} {cf : α → α → Int} {fv : Value} {blk lim cap : Nat} {inv : World → Prop}
theorem Hp.max (O : TO cf) {d : List α} {first hi c : Nat} (h : Hp cf d first 0 hi c) (hc : hi ≤ c) {r : α} (hr : d[first]? = some r) : ∀ (p : Nat) (x : α), p < hi → d[first + p]? = some x → Le cf x r := by
  intro p
  induction p using Nat.strongRecOn with
  | _ p ih =>
    intro x hp hx
    by_cases h0 : p = 0
    · subst h0; rw [Nat.add_zero, hr] at hx; cases hx; exact (O.tot _ _).elim id id
    · have hpl := (List.getElem?_eq_some_iff.1 hx).1
      have hy : d[first + (p - 1) / 2]? = some (d[first + (p - 1) / 2]'(by omega)) := List.getElem?_eq_getElem (by omega)
      exact O.tr _ _ _ (h ((p - 1) / 2) _ x (by omega) p (by omega) hp (by omega) hy hx) (ih ((p - 1) / 2) (by omega) _ (by omega) hy)
theorem heapsort_gives (O : TO cf) (E : SE Try.prog enc 2 cf fv blk lim inv) {W : World} {d : List α} (h : SS enc 2 el blk lim cap inv W d) {a b : Nat} (hab : a < b) (hb : b ≤ d.length) (hd : d.length < 1099511627776) :
    Gives Try.prog 159 #[rw' blk d.length cap, ns a, ns b, fv] W fun v W' => v = .tuple #[] ∧ ∃ d', SS enc 2 el blk lim cap inv W' d' ∧ Sw a b d d' ∧ Fr (Tn blk lim) W W' ∧ Srtd cf d' a b := F159_fn (by
  unfold F159
  have e0 : IntKind.i64.wrap ((b : Int) - (a : Int)) = ((b - a : Nat) : Int) := sub_w (by omega) (by omega)
  rw [e0, pred_w (by omega) (by omega)]
  generalize hhi : b - a = hi
  have e1 : IntKind.i64.wrap ((((hi - 1 : Nat) : Int)).tdiv 2) = (((hi - 1) / 2 : Nat) : Int) := by
    have : (((hi - 1 : Nat) : Int)).tdiv 2 = (((hi - 1) / 2 : Nat) : Int) := rfl
    rw [this, wrap_i64] <;> omega
  rw [e1]
  refine ⟨by decide, ?_⟩
  refine Lp.i1 (fun i W' => ∃ (p : Nat) (d' : List α), i = (p : Int) - 1 ∧ SS enc 2 el blk lim cap inv W' d' ∧ Sw a b d d' ∧ Fr (Tn blk lim) W W' ∧ p ≤ (hi - 1) / 2 + 1 ∧ ∀ c, hi ≤ c → Hp cf d' a p hi c) (fun i _ => (i + 1).toNat)
    ⟨(hi - 1) / 2 + 1, d, by omega, h, .refl, Fr.refl _ _, Nat.le_refl _, fun c _ i x y h1 j hj hjh => by omega⟩ ?_
  rintro _ W1 k ⟨p, d1, rfl, h1, hsw1, f1, hp, hH⟩ hk
  have hl1 := hsw1.len
  refine AsI.mk (If.dec (fun hge => ?_) fun hlt => ?_)
  · have e2 : ((p : Int) - 1) = ((p - 1 : Nat) : Int) := by omega
    rw [e2]
    have hcall := sift_gives O E h1 (lo := p - 1) (hi := hi) (first := a) (by omega) (by omega) (by omega) (by omega) (fun i x y hi1 j hj hjh hne => hH hi (Nat.le_refl _) i x y (by omega) j hj hjh (by omega))
    rw [hl1] at hcall
    refine CallK.mk hcall ?_
    rintro _ W2 ⟨rfl, d2, h2, hsw2, f2, hH2⟩
    have e3 : IntKind.i64.wrap (((p - 1 : Nat) : Int) - 1) = ((p - 1 : Nat) : Int) - 1 := by rw [wrap_i64] <;> omega
    rw [e3]
    exact hk _ _ ⟨p - 1, d2, rfl, h2, hsw1.trans (hsw2.mono (by omega) (by omega)), f1.trans f2, by omega, hH2⟩ (by omega)
  · have hp0 : p = 0 := by omega
    subst hp0
    have e4 : ((hi - 1 : Nat) : Int) = ((hi : Nat) : Int) - 1 := by omega
    rw [e4]
    refine Lp.i1 (fun i W' => ∃ (p : Nat) (d' : List α), i = (p : Int) - 1 ∧ SS enc 2 el blk lim cap inv W' d' ∧ Sw a b d d' ∧ Fr (Tn blk lim) W W' ∧ p ≤ hi ∧ (∀ c, p ≤ c → Hp cf d' a 0 p c) ∧ (∀ u v x y, u < p → p ≤ v → v < hi → d'[a + u]? = some x → d'[a + v]? = some y → Le cf x y) ∧ Srtd cf d' (a + p) b) (fun i _ => (i + 1).toNat)
      ⟨hi, d1, rfl, h1, hsw1, f1, Nat.le_refl _, hH, fun u v x y _ h1 h2 => by omega, fun u v x y h1 h2 h3 => by omega⟩ ?_
    rintro _ W2 k2 ⟨p, d2, rfl, h2, hsw2, f2, hp2, hH2, hbig, hsr⟩ hk2
    have hl2 := hsw2.len
    refine AsI.mk (If.dec (fun hge => ?_) fun hlt2 => ?_)
    · have e2 : ((p : Int) - 1) = ((p - 1 : Nat) : Int) := by omega
      rw [e2, add_w (by omega)]
      have hx : d2[a]? = some (d2[a]'(by omega)) := List.getElem?_eq_getElem (by omega)
      have hy : d2[a + (p - 1)]? = some (d2[a + (p - 1)]'(by omega)) := List.getElem?_eq_getElem (by omega)
      generalize (d2[a]'(by omega)) = x at hx
      generalize (d2[a + (p - 1)]'(by omega)) = y at hy
      refine h2.swap E hl2.symm rfl rfl hx hy fun W3 h3 f3 => ?_
      have hmax := (hH2 p (Nat.le_refl _)).max O (Nat.le_refl _) hx
      have hl3 : (swp d2 a (a + (p - 1)) x y).length = d.length := by rw [swp_len, hl2]
      have ej : (swp d2 a (a + (p - 1)) x y)[a + (p - 1)]? = some x := swp_j (by omega)
      have hcall := sift_gives O E h3 (lo := 0) (hi := p - 1) (first := a) (by omega) (by omega) (by omega) (by omega) (fun i u v _ j hj hjh hne hu hv => by
        rw [swp_o (by omega) (by omega)] at hu hv
        exact hH2 p (Nat.le_refl _) i u v (by omega) j hj (by omega) (by omega) hu hv)
      rw [hl3] at hcall
      refine CallK.mk hcall ?_
      rintro _ W4 ⟨rfl, d4, h4, hsw4, f4, hH4⟩
      have e3 : IntKind.i64.wrap (((p - 1 : Nat) : Int) - 1) = ((p - 1 : Nat) : Int) - 1 := by rw [wrap_i64] <;> omega
      rw [e3]
      have hsw3 : Sw a b d (swp d2 a (a + (p - 1)) x y) := hsw2.step (by omega) (by omega) (by omega) (by omega) hx hy
      -- all of the front are below x
      have hfront3 : ∀ k z, a + 0 ≤ k → k < a + (p - 1) → (swp d2 a (a + (p - 1)) x y)[k]? = some z → Le cf z x := by
        intro q z hq1 hq2 hz
        by_cases hqa : q = a
        · subst hqa
          rw [swp_i (by omega) (by omega)] at hz; cases hz
          exact hmax (p - 1) _ (by omega) hy
        · rw [swp_o hqa (by omega)] at hz
          exact hmax (q - a) z (by omega) (by rw [show a + (q - a) = q by omega]; exact hz)
      have hfront3' : ∀ v yy, p ≤ v → v < hi → d2[a + v]? = some yy → ∀ k z, a + 0 ≤ k → k < a + (p - 1) → (swp d2 a (a + (p - 1)) x y)[k]? = some z → Le cf z yy := by
        intro v yy hv1 hv2 hyy q z hq1 hq2 hz
        by_cases hqa : q = a
        · subst hqa
          rw [swp_i (by omega) (by omega)] at hz; cases hz
          exact hbig (p - 1) v _ _ (by omega) hv1 hv2 hy hyy
        · rw [swp_o hqa (by omega)] at hz
          exact hbig (q - a) v z yy (by omega) hv1 hv2 (by rw [show a + (q - a) = q by omega]; exact hz) hyy
      have hout4 : ∀ k, a + (p - 1) ≤ k → d4[k]? = (swp d2 a (a + (p - 1)) x y)[k]? := fun q hq => hsw4.out (.inr hq)
      refine hk2 _ _ ⟨p - 1, d4, rfl, h4, hsw3.trans (hsw4.mono (by omega) (by omega)), (f2.trans f3).trans f4, by omega, hH4, fun u v xx yy hu hv hvh hxx hyy => ?_, fun u v xx yy hu huv hv hxx hyy => ?_⟩ (by omega)
      · rw [hout4 _ (by omega)] at hyy
        by_cases hvp : v = p - 1
        · subst hvp
          rw [ej] at hyy; cases hyy
          exact hsw4.all (p := fun z => Le cf z x) hfront3 (a + u) xx (by omega) (by omega) hxx
        · rw [swp_o (by omega) (by omega)] at hyy
          exact hsw4.all (p := fun z => Le cf z yy) (hfront3' v yy (by omega) hvh hyy) (a + u) xx (by omega) (by omega) hxx
      · rw [hout4 _ (by omega)] at hxx hyy
        rw [swp_o (by omega) (by omega)] at hyy
        by_cases hup : u = a + (p - 1)
        · subst hup
          rw [ej] at hxx; cases hxx
          exact hbig 0 (v - a) x yy (by omega) (by omega) (by omega) (by rw [Nat.add_zero]; exact hx) (by rw [show a + (v - a) = v by omega]; exact hyy)
        · rw [swp_o (by omega) (by omega)] at hxx
          exact hsr u v xx yy (by omega) huv hv hxx hyy
    · have hp0 : p = 0 := by omega
      subst hp0
      exact ⟨rfl, d2, h2, hsw2, f2, by simpa using hsr⟩)
end
end Go.Proofs.Ytcagnabglppenaa.Sr
