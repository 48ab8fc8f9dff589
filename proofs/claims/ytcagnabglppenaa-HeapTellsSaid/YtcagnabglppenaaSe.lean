/- Sorting items: the partitions. -/
import Derived.Test.YtcagnabglppenaaSd
namespace Go.Proofs.Ytcagnabglppenaa.Sr
open Go Go.RowKit Go.Vc Go.Proofs.Ytcagnabglppenaa.Fs

section
variable {α : Type} {enc : α → List Value} {el : TypeId} {cf : α → α → Int} {fv : Value} {blk lim cap : Nat} {inv : World → Prop}
theorem parteq_gives (E : SE Try.prog enc 2 cf fv blk lim inv) {W : World} {d : List α} (h : SS enc 2 el blk lim cap inv W d) {a b p : Nat} {x : α} (hap : a ≤ p) (hpb : p < b) (hb : b ≤ d.length) (hd : d.length < 1099511627776) (hx : d[p]? = some x) (hxx : ¬ cf x x < 0) :
    Gives Try.prog 164 #[rw' blk d.length cap, ns a, ns b, ns p, fv] W fun v W' => ∃ (mid : Nat) (d' : List α), v = ns mid ∧ a < mid ∧ mid ≤ b ∧ SS enc 2 el blk lim cap inv W' d' ∧ Sw a b d d' ∧ Fr (Tn blk lim) W W' ∧
      (∀ k y, a ≤ k → k < mid → d'[k]? = some y → ¬ cf x y < 0) ∧ ∀ k y, mid ≤ k → k < b → d'[k]? = some y → cf x y < 0 := F164_fn (by
  unfold F164
  have hz : d[a]? = some (d[a]'(by omega)) := List.getElem?_eq_getElem (by omega)
  generalize (d[a]'(by omega)) = z at hz
  refine h.swap E rfl rfl rfl (j1 := a) (j2 := p) hz hx fun W1 h1 f1 => ?_
  have ha1 : (swp d a p z x)[a]? = some x := by
    by_cases hap' : a = p
    · subst hap'; rw [hz] at hx; cases hx; exact swp_j (by omega)
    · exact swp_i (by omega) hap'
  have hsw1 : Sw a b d (swp d a p z x) := Sw.refl.step (by omega) (by omega) hap hpb hz hx
  rw [succ_w (a := a) (by omega), pred_w (a := b) (by omega) (by omega)]
  refine Lp.i2 (fun i j W' => ∃ (u v : Nat) (d' : List α), i = (u : Int) ∧ j = (v : Int) ∧ SS enc 2 el blk lim cap inv W' d' ∧ Sw a b d d' ∧ Fr (Tn blk lim) W W' ∧ a + 1 ≤ u ∧ v < b ∧ u ≤ v + 1 ∧ d'[a]? = some x ∧
      (∀ k y, a ≤ k → k < u → d'[k]? = some y → ¬ cf x y < 0) ∧ ∀ k y, v < k → k < b → d'[k]? = some y → cf x y < 0) (fun i j _ => (j + 1 - i).toNat)
    ⟨a + 1, b - 1, _, rfl, rfl, h1, hsw1, f1, by omega, by omega, by omega, ha1, fun k y hk1 hk2 hy => by
      have : k = a := by omega
      subst this; rw [ha1] at hy; cases hy; exact hxx, fun k y hk1 hk2 => by omega⟩ ?_
  rintro _ _ W2 k ⟨u, v, d2, rfl, rfl, h2, hsw2, f2, hu1, hv1, huv, ha2, hlo, hhi⟩ hk
  have hl2 := hsw2.len
  refine AsI.mk (AsI.mk ?_)
  refine Lp.i1 (fun i W' => ∃ (r : Nat), i = (r : Int) ∧ SS enc 2 el blk lim cap inv W' d2 ∧ Fr (Tn blk lim) W W' ∧ u ≤ r ∧ r ≤ v + 1 ∧ ∀ k y, a ≤ k → k < r → d2[k]? = some y → ¬ cf x y < 0) (fun i _ => ((v : Int) + 1 - i).toNat)
    ⟨u, rfl, h2, f2, Nat.le_refl _, huv, hlo⟩ ?_
  rintro _ W3 k1 ⟨r, rfl, h3, f3, hr1, hr2, hlo3⟩ hk1
  refine AsI.mk (Join.use fun J hJ => ?_)
  -- the second inner loop, from wherever the first one ends
  have second : ∀ W4, SS enc 2 el blk lim cap inv W4 d2 → Fr (Tn blk lim) W W4 → (r ≤ v → ∀ y, d2[r]? = some y → cf x y < 0) → J false W4 := by
    intro W4 h4 f4 hr
    rw [hJ]
    refine If.neg rfl ?_
    refine Lp.i1 (fun j W' => ∃ (q : Nat), j = (q : Int) ∧ SS enc 2 el blk lim cap inv W' d2 ∧ Fr (Tn blk lim) W W' ∧ q ≤ v ∧ r ≤ q + 1 ∧ ∀ k y, q < k → k < b → d2[k]? = some y → cf x y < 0) (fun j _ => j.toNat)
      ⟨v, rfl, h4, f4, Nat.le_refl _, hr2, hhi⟩ ?_
    rintro _ W5 k2 ⟨q, rfl, h5, f5, hq1, hq2, hhi5⟩ hk2
    refine AsI.mk (Join.use fun J1 hJ1 => ?_)
    have fin : ∀ W6, SS enc 2 el blk lim cap inv W6 d2 → Fr (Tn blk lim) W W6 → (r ≤ q → ∀ y, d2[q]? = some y → ¬ cf x y < 0) → J1 false W6 := by
      intro W6 h6 f6 hq
      rw [hJ1]
      refine If.neg rfl (If.dec (fun hgt => ⟨r, d2, rfl, by omega, by omega, h6, hsw2, f6, hlo3, fun k y hk1 hk2 hy => hhi5 k y (by omega) hk2 hy⟩) fun hngt => ?_)
      have hrq : r ≤ q := by omega
      have hy1 : d2[r]? = some (d2[r]'(by omega)) := List.getElem?_eq_getElem (by omega)
      have hy2 : d2[q]? = some (d2[q]'(by omega)) := List.getElem?_eq_getElem (by omega)
      generalize (d2[r]'(by omega)) = y1 at hy1
      generalize (d2[q]'(by omega)) = y2 at hy2
      have c1 := hr (by omega) y1 hy1
      have c2 := hq hrq y2 hy2
      refine h6.swap E hl2.symm rfl rfl hy1 hy2 fun W7 h7 f7 => ?_
      rw [succ_w (a := r) (by omega), pred_w (a := q) (by omega) (by omega)]
      have hne : r ≠ q := fun e => by subst e; rw [hy1] at hy2; cases hy2; exact c2 c1
      have er : (swp d2 r q y1 y2)[r]? = some y2 := swp_i (by omega) hne
      have eq : (swp d2 r q y1 y2)[q]? = some y1 := swp_j (by omega)
      refine hk _ _ _ ⟨r + 1, q - 1, _, rfl, rfl, h7, hsw2.step (by omega) (by omega) (by omega) (by omega) hy1 hy2, f6.trans f7, by omega, by omega, by omega, by rw [swp_o (by omega) (by omega)]; exact ha2, fun k y hk1 hk2 hy => ?_, fun k y hk1 hk2 hy => ?_⟩ (by omega)
      · by_cases hkr : k = r
        · subst hkr; rw [er] at hy; cases hy; exact c2
        · rw [swp_o hkr (by omega)] at hy; exact hlo3 k y hk1 (by omega) hy
      · by_cases hkq : k = q
        · subst hkq; rw [eq] at hy; cases hy; exact c1
        · rw [swp_o (by omega) hkq] at hy; exact hhi5 k y (by omega) hk2 hy
    refine If.dec (fun hle => ?_) fun hgt => ?_
    · have hy2 : d2[q]? = some (d2[q]'(by omega)) := List.getElem?_eq_getElem (by omega)
      generalize (d2[q]'(by omega)) = y2 at hy2
      refine h5.cmpA E hl2.symm rfl rfl ha2 hy2 fun W6 h6 f6 => ?_
      by_cases hlt : cf x y2 < 0
      · rw [decide_eq_true hlt, hJ1]
        refine If.pos rfl ?_
        rw [pred_w (a := q) (by omega) (by omega)]
        refine hk2 _ _ ⟨q - 1, rfl, h6, f5.trans f6, by omega, by omega, fun k y hk1 hk2 hy => ?_⟩ (by omega)
        by_cases hkq : k = q
        · subst hkq; rw [hy2] at hy; cases hy; exact hlt
        · exact hhi5 k y (by omega) hk2 hy
      · rw [decide_eq_false hlt]
        exact fin W6 h6 (f5.trans f6) fun _ y hy => by rw [hy2] at hy; cases hy; exact hlt
    · intro W6 hb6
      exact fin W6 (h5.below E hb6) (f5.trans (frOf hb6)) fun hrq => by omega
  refine If.dec (fun hle => ?_) fun hgt => ?_
  · have hy1 : d2[r]? = some (d2[r]'(by omega)) := List.getElem?_eq_getElem (by omega)
    generalize (d2[r]'(by omega)) = y1 at hy1
    refine h3.cmpA E hl2.symm rfl rfl ha2 hy1 fun W4 h4 f4 => ?_
    by_cases hlt : cf x y1 < 0
    · rw [decide_eq_true hlt]
      exact second W4 h4 (f3.trans f4) fun _ y hy => by rw [hy1] at hy; cases hy; exact hlt
    · rw [decide_eq_false hlt, hJ]
      refine If.pos rfl ?_
      rw [succ_w (a := r) (by omega)]
      refine hk1 _ _ ⟨r + 1, rfl, h4, f3.trans f4, by omega, by omega, fun k y hk1 hk2 hy => ?_⟩ (by omega)
      by_cases hkr : k = r
      · subst hkr; rw [hy1] at hy; cases hy; exact hlt
      · exact hlo3 k y hk1 (by omega) hy
  · intro W4 hb4
    exact second W4 (h3.below E hb4) (f3.trans (frOf hb4)) fun hrv => by omega)
end
end Go.Proofs.Ytcagnabglppenaa.Sr
