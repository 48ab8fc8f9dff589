/- Sorting items: the partition. -/
import Derived.Test.YtcagnabglppenaaSe
namespace Go.Proofs.Ytcagnabglppenaa.Sr
open Go Go.RowKit Go.Vc Go.Proofs.Ytcagnabglppenaa.Fs

section
variable {α : Type} {enc : α → List Value} {el : TypeId} {cf : α → α → Int} {fv : Value} {blk lim cap : Nat} {inv : World → Prop}
/-- What a partition at mid comes to. -/
def Part (cf : α → α → Int) (d' : List α) (a b mid : Nat) (x : α) : Prop := d'[mid]? = some x ∧ (∀ k y, a ≤ k → k < mid → d'[k]? = some y → cf y x < 0) ∧ ∀ k y, mid < k → k < b → d'[k]? = some y → ¬ cf y x < 0
theorem part_end {d2 : List α} {a b r q : Nat} {x : α} (hq1 : q < b) (hqa : a ≤ q) (hb : b ≤ d2.length) (hrq : r = q + 1) (ha2 : d2[a]? = some x) (hlo : ∀ k y, a < k → k < r → d2[k]? = some y → cf y x < 0) (hhi : ∀ k y, q < k → k < b → d2[k]? = some y → ¬ cf y x < 0) {y : α} (hy : d2[q]? = some y) :
    Part cf (swp d2 q a y x) a b q x := by
  by_cases hqa' : q = a
  · subst hqa'
    have : y = x := Option.some.inj (hy.symm.trans ha2)
    subst this
    have e : (swp d2 q q y y)[q]? = some y := swp_j (by omega)
    exact ⟨e, fun k y hk1 hk2 => by omega, fun k y' hk1 hk2 hy' => hhi k y' hk1 hk2 (by rw [swp_o (by omega) (by omega)] at hy'; exact hy')⟩
  · have eq : (swp d2 q a y x)[q]? = some x := swp_i (by omega) hqa'
    have ea : (swp d2 q a y x)[a]? = some y := swp_j (by omega)
    refine ⟨eq, fun k z hk1 hk2 hz => ?_, fun k z hk1 hk2 hz => ?_⟩
    · by_cases hka : k = a
      · subst hka; rw [ea] at hz; cases hz; exact hlo q y (by omega) (by omega) hy
      · rw [swp_o (by omega) hka] at hz; exact hlo k z (by omega) (by omega) hz
    · rw [swp_o (by omega) (by omega)] at hz; exact hhi k z hk1 hk2 hz
theorem part_gives (E : SE Try.prog enc 2 cf fv blk lim inv) {W : World} {d : List α} (h : SS enc 2 el blk lim cap inv W d) {a b p : Nat} {x : α} (hap : a ≤ p) (hpb : p < b) (hb : b ≤ d.length) (hd : d.length < 1099511627776) (hx : d[p]? = some x) :
    Gives Try.prog 165 #[rw' blk d.length cap, ns a, ns b, ns p, fv] W fun v W' => ∃ (mid : Nat) (d' : List α) (al : Bool), v = .tuple #[ns mid, .bool al] ∧ a ≤ mid ∧ mid < b ∧ SS enc 2 el blk lim cap inv W' d' ∧ Sw a b d d' ∧ Fr (Tn blk lim) W W' ∧ Part cf d' a b mid x := F165_fn (by
  unfold F165
  have hz : d[a]? = some (d[a]'(by omega)) := List.getElem?_eq_getElem (by omega)
  generalize (d[a]'(by omega)) = z at hz
  refine h.swap E rfl rfl rfl (j1 := a) (j2 := p) hz hx fun W1 h1 f1 => ?_
  have ha1 : (swp d a p z x)[a]? = some x := by
    by_cases hap' : a = p
    · subst hap'; rw [hz] at hx; cases hx; exact swp_j (by omega)
    · exact swp_i (by omega) hap'
  have hsw1 : Sw a b d (swp d a p z x) := Sw.refl.step (by omega) (by omega) hap hpb hz hx
  rw [succ_w (a := a) (by omega), pred_w (a := b) (by omega) (by omega)]
  generalize hd1 : swp d a p z x = d1 at *
  have hl1 := hsw1.len
  refine Lp.i1 (fun i W' => ∃ (r : Nat), i = (r : Int) ∧ SS enc 2 el blk lim cap inv W' d1 ∧ Fr (Tn blk lim) W W' ∧ a + 1 ≤ r ∧ r ≤ b ∧ ∀ k y, a < k → k < r → d1[k]? = some y → cf y x < 0) (fun i _ => ((b : Int) - i).toNat)
    ⟨a + 1, rfl, h1, f1, Nat.le_refl _, by omega, fun k y hk1 hk2 => by omega⟩ ?_
  rintro _ W3 k1 ⟨r, rfl, h3, f3, hr1, hr2, hlo3⟩ hk1
  refine AsI.mk (Join.use fun J hJ => ?_)
  have second : ∀ W4, SS enc 2 el blk lim cap inv W4 d1 → Fr (Tn blk lim) W W4 → (r < b → ∀ y, d1[r]? = some y → ¬ cf y x < 0) → J false W4 := by
    intro W4 h4 f4 hr
    rw [hJ]
    refine If.neg rfl ?_
    refine Lp.i1 (fun j W' => ∃ (q : Nat), j = (q : Int) ∧ SS enc 2 el blk lim cap inv W' d1 ∧ Fr (Tn blk lim) W W' ∧ q < b ∧ r ≤ q + 1 ∧ ∀ k y, q < k → k < b → d1[k]? = some y → ¬ cf y x < 0) (fun j _ => j.toNat)
      ⟨b - 1, rfl, h4, f4, by omega, by omega, fun k y hk1 hk2 => by omega⟩ ?_
    rintro _ W5 k2 ⟨q, rfl, h5, f5, hq1, hq2, hhi5⟩ hk2
    refine AsI.mk (Join.use fun J1 hJ1 => ?_)
    have fin : ∀ W6, SS enc 2 el blk lim cap inv W6 d1 → Fr (Tn blk lim) W W6 → (r ≤ q → ∀ y, d1[q]? = some y → cf y x < 0) → J1 false W6 := by
      intro W6 h6 f6 hq
      rw [hJ1]
      refine If.neg rfl (If.dec (fun hgt => ?_) fun hngt => ?_)
      · have hy : d1[q]? = some (d1[q]'(by omega)) := List.getElem?_eq_getElem (by omega)
        generalize (d1[q]'(by omega)) = y at hy
        refine h6.swap E hl1.symm rfl rfl hy ha1 fun W7 h7 f7 => ?_
        exact ⟨q, _, true, rfl, by omega, hq1, h7, hsw1.step (by omega) hq1 (by omega) (by omega) hy ha1, f6.trans f7, part_end hq1 (by omega) (by omega) (by omega) ha1 hlo3 hhi5 hy⟩
      · have hrq : r ≤ q := by omega
        have hy1 : d1[r]? = some (d1[r]'(by omega)) := List.getElem?_eq_getElem (by omega)
        have hy2 : d1[q]? = some (d1[q]'(by omega)) := List.getElem?_eq_getElem (by omega)
        generalize (d1[r]'(by omega)) = y1 at hy1
        generalize (d1[q]'(by omega)) = y2 at hy2
        have c1 := hr (by omega) y1 hy1
        have c2 := hq hrq y2 hy2
        refine h6.swap E hl1.symm rfl rfl hy1 hy2 fun W7 h7 f7 => ?_
        rw [succ_w (a := r) (by omega), pred_w (a := q) (by omega) (by omega)]
        have hne : r ≠ q := fun e => by subst e; rw [hy1] at hy2; cases hy2; exact c1 c2
        have er : (swp d1 r q y1 y2)[r]? = some y2 := swp_i (by omega) hne
        have eq : (swp d1 r q y1 y2)[q]? = some y1 := swp_j (by omega)
        refine Lp.i2 (fun i j W' => ∃ (u v : Nat) (d' : List α), i = (u : Int) ∧ j = (v : Int) ∧ SS enc 2 el blk lim cap inv W' d' ∧ Sw a b d d' ∧ Fr (Tn blk lim) W W' ∧ a + 1 ≤ u ∧ v < b ∧ u ≤ v + 1 ∧ d'[a]? = some x ∧
            (∀ k y, a < k → k < u → d'[k]? = some y → cf y x < 0) ∧ ∀ k y, v < k → k < b → d'[k]? = some y → ¬ cf y x < 0) (fun i j _ => (j + 1 - i).toNat)
          ⟨r + 1, q - 1, _, rfl, rfl, h7, hsw1.step (by omega) (by omega) (by omega) (by omega) hy1 hy2, f6.trans f7, by omega, by omega, by omega, by rw [swp_o (by omega) (by omega)]; exact ha1, fun k y hk1 hk2 hy => by
            by_cases hkr : k = r
            · subst hkr; rw [er] at hy; cases hy; exact c2
            · rw [swp_o hkr (by omega)] at hy; exact hlo3 k y hk1 (by omega) hy, fun k y hk1 hk2 hy => by
            by_cases hkq : k = q
            · subst hkq; rw [eq] at hy; cases hy; exact c1
            · rw [swp_o (by omega) hkq] at hy; exact hhi5 k y (by omega) hk2 hy⟩ ?_
        rintro _ _ W8 k ⟨u, v, d2, rfl, rfl, h8, hsw8, f8, hu1, hv1, huv, ha8, hlo8, hhi8⟩ hk
        have hl8 := hsw8.len
        refine AsI.mk (AsI.mk ?_)
        refine Lp.i1 (fun i W' => ∃ (r : Nat), i = (r : Int) ∧ SS enc 2 el blk lim cap inv W' d2 ∧ Fr (Tn blk lim) W W' ∧ u ≤ r ∧ r ≤ v + 1 ∧ ∀ k y, a < k → k < r → d2[k]? = some y → cf y x < 0) (fun i _ => ((v : Int) + 1 - i).toNat)
          ⟨u, rfl, h8, f8, Nat.le_refl _, huv, hlo8⟩ ?_
        rintro _ W9 k3 ⟨r', rfl, h9, f9, hr91, hr92, hlo9⟩ hk3
        refine AsI.mk (Join.use fun J2 hJ2 => ?_)
        have second2 : ∀ W4, SS enc 2 el blk lim cap inv W4 d2 → Fr (Tn blk lim) W W4 → (r' ≤ v → ∀ y, d2[r']? = some y → ¬ cf y x < 0) → J2 false W4 := by
          intro W10 h10 f10 hr'
          rw [hJ2]
          refine If.neg rfl ?_
          refine Lp.i1 (fun j W' => ∃ (q : Nat), j = (q : Int) ∧ SS enc 2 el blk lim cap inv W' d2 ∧ Fr (Tn blk lim) W W' ∧ q ≤ v ∧ r' ≤ q + 1 ∧ ∀ k y, q < k → k < b → d2[k]? = some y → ¬ cf y x < 0) (fun j _ => j.toNat)
            ⟨v, rfl, h10, f10, Nat.le_refl _, hr92, hhi8⟩ ?_
          rintro _ W11 k4 ⟨q', rfl, h11, f11, hq111, hq112, hhi11⟩ hk4
          refine AsI.mk (Join.use fun J3 hJ3 => ?_)
          have fin2 : ∀ W6, SS enc 2 el blk lim cap inv W6 d2 → Fr (Tn blk lim) W W6 → (r' ≤ q' → ∀ y, d2[q']? = some y → cf y x < 0) → J3 false W6 := by
            intro W12 h12 f12 hq'
            rw [hJ3]
            refine If.neg rfl (If.dec (fun hgt => ?_) fun hngt => ?_)
            · have hy : d2[q']? = some (d2[q']'(by omega)) := List.getElem?_eq_getElem (by omega)
              generalize (d2[q']'(by omega)) = y at hy
              refine h12.swap E hl8.symm rfl rfl hy ha8 fun W13 h13 f13 => ?_
              exact ⟨q', _, false, rfl, by omega, by omega, h13, hsw8.step (by omega) (by omega) (by omega) (by omega) hy ha8, f12.trans f13, part_end (by omega) (by omega) (by omega) (by omega) ha8 hlo9 hhi11 hy⟩
            · have hy1' : d2[r']? = some (d2[r']'(by omega)) := List.getElem?_eq_getElem (by omega)
              have hy2' : d2[q']? = some (d2[q']'(by omega)) := List.getElem?_eq_getElem (by omega)
              generalize (d2[r']'(by omega)) = z1 at hy1'
              generalize (d2[q']'(by omega)) = z2 at hy2'
              have e1 := hr' (by omega) z1 hy1'
              have e2 := hq' (by omega) z2 hy2'
              refine h12.swap E hl8.symm rfl rfl hy1' hy2' fun W13 h13 f13 => ?_
              rw [succ_w (a := r') (by omega), pred_w (a := q') (by omega) (by omega)]
              have hne' : r' ≠ q' := fun e => by subst e; rw [hy1'] at hy2'; cases hy2'; exact e1 e2
              have er' : (swp d2 r' q' z1 z2)[r']? = some z2 := swp_i (by omega) hne'
              have eq' : (swp d2 r' q' z1 z2)[q']? = some z1 := swp_j (by omega)
              refine hk _ _ _ ⟨r' + 1, q' - 1, _, rfl, rfl, h13, hsw8.step (by omega) (by omega) (by omega) (by omega) hy1' hy2', f12.trans f13, by omega, by omega, by omega, by rw [swp_o (by omega) (by omega)]; exact ha8, fun k y hk1 hk2 hy => ?_, fun k y hk1 hk2 hy => ?_⟩ (by omega)
              · by_cases hkr : k = r'
                · subst hkr; rw [er'] at hy; cases hy; exact e2
                · rw [swp_o hkr (by omega)] at hy; exact hlo9 k y hk1 (by omega) hy
              · by_cases hkq : k = q'
                · subst hkq; rw [eq'] at hy; cases hy; exact e1
                · rw [swp_o (by omega) hkq] at hy; exact hhi11 k y (by omega) hk2 hy
          refine If.dec (fun hle => ?_) fun hgt => ?_
          · have hy2' : d2[q']? = some (d2[q']'(by omega)) := List.getElem?_eq_getElem (by omega)
            generalize (d2[q']'(by omega)) = z2 at hy2'
            refine h11.cmpA E hl8.symm rfl rfl hy2' ha8 fun W12 h12 f12 => ?_
            by_cases hlt : cf z2 x < 0
            · rw [decide_eq_true hlt]
              exact fin2 W12 h12 (f11.trans f12) fun _ y hy => by rw [hy2'] at hy; cases hy; exact hlt
            · rw [decide_eq_false hlt, hJ3]
              refine If.pos rfl ?_
              rw [pred_w (a := q') (by omega) (by omega)]
              refine hk4 _ _ ⟨q' - 1, rfl, h12, f11.trans f12, by omega, by omega, fun k y hk1 hk2 hy => ?_⟩ (by omega)
              by_cases hkq : k = q'
              · subst hkq; rw [hy2'] at hy; cases hy; exact hlt
              · exact hhi11 k y (by omega) hk2 hy
          · intro W12 hb12
            exact fin2 W12 (h11.below E hb12) (f11.trans (frOf hb12)) fun hrq => by omega
        refine If.dec (fun hle => ?_) fun hgt => ?_
        · have hy1' : d2[r']? = some (d2[r']'(by omega)) := List.getElem?_eq_getElem (by omega)
          generalize (d2[r']'(by omega)) = z1 at hy1'
          refine h9.cmpA E hl8.symm rfl rfl hy1' ha8 fun W10 h10 f10 => ?_
          by_cases hlt : cf z1 x < 0
          · rw [decide_eq_true hlt, hJ2]
            refine If.pos rfl ?_
            rw [succ_w (a := r') (by omega)]
            refine hk3 _ _ ⟨r' + 1, rfl, h10, f9.trans f10, by omega, by omega, fun k y hk1 hk2 hy => ?_⟩ (by omega)
            by_cases hkr : k = r'
            · subst hkr; rw [hy1'] at hy; cases hy; exact hlt
            · exact hlo9 k y hk1 (by omega) hy
          · rw [decide_eq_false hlt]
            exact second2 W10 h10 (f9.trans f10) fun _ y hy => by rw [hy1'] at hy; cases hy; exact hlt
        · intro W10 hb10
          exact second2 W10 (h9.below E hb10) (f9.trans (frOf hb10)) fun hrv => by omega
    refine If.dec (fun hle => ?_) fun hgt => ?_
    · have hy2 : d1[q]? = some (d1[q]'(by omega)) := List.getElem?_eq_getElem (by omega)
      generalize (d1[q]'(by omega)) = y2 at hy2
      refine h5.cmpA E hl1.symm rfl rfl hy2 ha1 fun W6 h6 f6 => ?_
      by_cases hlt : cf y2 x < 0
      · rw [decide_eq_true hlt]
        exact fin W6 h6 (f5.trans f6) fun _ y hy => by rw [hy2] at hy; cases hy; exact hlt
      · rw [decide_eq_false hlt, hJ1]
        refine If.pos rfl ?_
        rw [pred_w (a := q) (by omega) (by omega)]
        refine hk2 _ _ ⟨q - 1, rfl, h6, f5.trans f6, by omega, by omega, fun k y hk1 hk2 hy => ?_⟩ (by omega)
        by_cases hkq : k = q
        · subst hkq; rw [hy2] at hy; cases hy; exact hlt
        · exact hhi5 k y (by omega) hk2 hy
    · intro W6 hb6
      exact fin W6 (h5.below E hb6) (f5.trans (frOf hb6)) fun hrq => by omega
  refine If.dec (fun hle => ?_) fun hgt => ?_
  · have hy1 : d1[r]? = some (d1[r]'(by omega)) := List.getElem?_eq_getElem (by omega)
    generalize (d1[r]'(by omega)) = y1 at hy1
    refine h3.cmpA E hl1.symm rfl rfl hy1 ha1 fun W4 h4 f4 => ?_
    by_cases hlt : cf y1 x < 0
    · rw [decide_eq_true hlt, hJ]
      refine If.pos rfl ?_
      rw [succ_w (a := r) (by omega)]
      refine hk1 _ _ ⟨r + 1, rfl, h4, f3.trans f4, by omega, by omega, fun k y hk1 hk2 hy => ?_⟩ (by omega)
      by_cases hkr : k = r
      · subst hkr; rw [hy1] at hy; cases hy; exact hlt
      · exact hlo3 k y hk1 (by omega) hy
    · rw [decide_eq_false hlt]
      exact second W4 h4 (f3.trans f4) fun _ y hy => by rw [hy1] at hy; cases hy; exact hlt
  · intro W4 hb4
    exact second W4 (h3.below E hb4) (f3.trans (frOf hb4)) fun hrv => by omega)
end
end Go.Proofs.Ytcagnabglppenaa.Sr
