/- Sorting items: insertion, heap sort. -/
import Derived.Test.YtcagnabglppenaaSa
namespace Go.Proofs.Ytcagnabglppenaa.Sr
open Go Go.RowKit Go.Vc Go.Proofs.Ytcagnabglppenaa.Fs

section
variable {α : Type} {enc : α → List Value} {el : TypeId} {cf : α → α → Int} {fv : Value} {blk lim cap : Nat} {inv : World → Prop}
def Le (cf : α → α → Int) (x y : α) : Prop := ¬ cf y x < 0
structure TO (cf : α → α → Int) : Prop where
  tot : ∀ x y, Le cf x y ∨ Le cf y x
  tr : ∀ x y z, Le cf x y → Le cf y z → Le cf x z
def Srtd (cf : α → α → Int) (d : List α) (a b : Nat) : Prop := ∀ p q x y, a ≤ p → p < q → q < b → d[p]? = some x → d[q]? = some y → Le cf x y
theorem insertion_gives (O : TO cf) (E : SE Try.prog enc 2 cf fv blk lim inv) {W : World} {d : List α} (h : SS enc 2 el blk lim cap inv W d) {a b : Nat} (hb : b ≤ d.length) (hab : a ≤ b) (hd : d.length < 1099511627776) :
    Gives Try.prog 158 #[rw' blk d.length cap, ns a, ns b, fv] W fun v W' => v = .tuple #[] ∧ ∃ d', SS enc 2 el blk lim cap inv W' d' ∧ Sw a b d d' ∧ Fr (Tn blk lim) W W' ∧ Srtd cf d' a b := F158_fn (by
  unfold F158
  rw [succ_w (by omega)]
  refine Lp.i1 (fun i W' => ∃ (p : Nat) (d' : List α), i = (p : Int) ∧ SS enc 2 el blk lim cap inv W' d' ∧ Sw a b d d' ∧ Fr (Tn blk lim) W W' ∧ a + 1 ≤ p ∧ p ≤ b + 1 ∧ Srtd cf d' a p) (fun i _ => ((b : Int) + 1 - i).toNat)
    ⟨a + 1, d, rfl, h, .refl, Fr.refl _ _, by omega, by omega, fun p q x y h1 h2 h3 => by omega⟩ ?_
  rintro _ W1 k ⟨p, d1, rfl, h1, hsw1, f1, hp1, hp2, hs1⟩ hk
  refine AsI.mk (If.dec (fun hlt => ?_) fun hge => ⟨rfl, d1, h1, hsw1, f1, fun u v x y hu huv hv => hs1 u v x y hu huv (by omega)⟩)
  refine Lp.i1 (fun j W' => ∃ (q : Nat) (d' : List α), j = (q : Int) ∧ SS enc 2 el blk lim cap inv W' d' ∧ Sw a b d d' ∧ Fr (Tn blk lim) W W' ∧ a ≤ q ∧ q ≤ p ∧ ∀ u v x y, a ≤ u → u < v → v ≤ p → v ≠ q → d'[u]? = some x → d'[v]? = some y → Le cf x y) (fun j _ => j.toNat)
    ⟨p, d1, rfl, h1, hsw1, f1, by omega, by omega, fun u v x y hu huv hv hvp hx hy => hs1 u v x y hu huv (by omega) hx hy⟩ ?_
  rintro _ W2 k1 ⟨q, d2, rfl, h2, hsw2, f2, hq1, hq2, hs2⟩ hk1
  have hl2 := hsw2.len
  refine AsI.mk (Join.use fun J hJ => ?_)
  have fin : ∀ W3, SS enc 2 el blk lim cap inv W3 d2 → Fr (Tn blk lim) W W3 → (a < q → ∀ x y, d2[q - 1]? = some x → d2[q]? = some y → Le cf x y) → J false W3 := by
    intro W3 h3 f3 hle
    rw [hJ]
    refine If.neg rfl ?_
    rw [succ_w (by omega)]
    refine hk _ _ ⟨p + 1, d2, rfl, h3, hsw2, f3, by omega, by omega, fun u v x y hu huv hv hx hy => ?_⟩ (by omega)
    by_cases hvq : v = q
    · subst hvq
      have hz : d2[v - 1]? = some (d2[v - 1]'(by omega)) := List.getElem?_eq_getElem (by omega)
      generalize (d2[v - 1]'(by omega)) = z at hz
      have h4 := hle (by omega) z y hz hy
      by_cases huz : u = v - 1
      · subst huz; rw [hz] at hx; cases hx; exact h4
      · exact O.tr _ _ _ (hs2 u (v - 1) x z hu (by omega) (by omega) (by omega) hx hz) h4
    · exact hs2 u v x y hu huv (by omega) hvq hx hy
  refine If.dec (fun hgt => ?_) fun hle => ?_
  · have hqa : a < q := by omega
    rw [pred_w (by omega) (by omega)]
    have hx : d2[q]? = some (d2[q]'(by omega)) := List.getElem?_eq_getElem (by omega)
    have hy : d2[q - 1]? = some (d2[q - 1]'(by omega)) := List.getElem?_eq_getElem (by omega)
    generalize (d2[q]'(by omega)) = x at hx
    generalize (d2[q - 1]'(by omega)) = y at hy
    refine h2.cmpA E hl2.symm rfl rfl hx hy fun W3 h3 f3 => ?_
    by_cases hlt' : cf x y < 0
    · rw [decide_eq_true hlt', hJ]
      refine If.pos rfl ?_
      rw [pred_w (by omega) (by omega)]
      refine h3.swap E hl2.symm rfl rfl hx hy fun W4 h4 f4 => ?_
      have hxy : Le cf x y := (O.tot x y).resolve_right (fun h => h hlt')
      refine hk1 _ _ ⟨q - 1, _, rfl, h4, hsw2.step hq1 (by omega) (by omega) (by omega) hx hy, (f2.trans f3).trans f4, by omega, by omega, fun u v xx yy hu huv hv hvq hxx hyy => ?_⟩ (by omega)
      have eq : (swp d2 q (q - 1) x y)[q]? = some y := swp_i (by omega) (by omega)
      have eq1 : (swp d2 q (q - 1) x y)[q - 1]? = some x := swp_j (by omega)
      by_cases hv1 : v = q
      · subst hv1
        rw [eq] at hyy; cases hyy
        by_cases hu1 : u = v - 1
        · subst hu1; rw [eq1] at hxx; cases hxx; exact hxy
        · rw [swp_o (by omega) (by omega)] at hxx
          exact hs2 u (v - 1) _ _ hu (by omega) (by omega) (by omega) hxx hy
      · rw [swp_o hv1 hvq] at hyy
        by_cases hu1 : u = q
        · subst hu1; rw [eq] at hxx; cases hxx
          exact hs2 (u - 1) v _ _ (by omega) (by omega) hv hv1 hy hyy
        · by_cases hu2 : u = q - 1
          · subst hu2; rw [eq1] at hxx; cases hxx
            exact hs2 q v _ _ hq1 (by omega) hv hv1 hx hyy
          · rw [swp_o hu1 hu2] at hxx
            exact hs2 u v _ _ hu huv hv hv1 hxx hyy
    · rw [decide_eq_false hlt']
      refine fin W3 h3 (f2.trans f3) fun _ x' y' hx' hy' => ?_
      rw [hy] at hx'; rw [hx] at hy'; cases hx'; cases hy'
      exact hlt'
  · intro W3 hb3
    exact fin W3 (h2.below E hb3) (f2.trans (frOf hb3)) fun h => by omega)

/-! ### Heap sort -/
/-- Above every child, from lo on; but for what stands at c. -/
def Hp (cf : α → α → Int) (d : List α) (first lo hi c : Nat) : Prop := ∀ i x y, lo ≤ i → ∀ j, (j = 2 * i + 1 ∨ j = 2 * i + 2) → j < hi → i ≠ c → d[first + i]? = some x → d[first + j]? = some y → Le cf y x
/-- What stands above c, stands above its children. -/
def Hg (cf : α → α → Int) (d : List α) (first lo hi c : Nat) : Prop := ∀ p x y, lo ≤ p → (c = 2 * p + 1 ∨ c = 2 * p + 2) → ∀ j, (j = 2 * c + 1 ∨ j = 2 * c + 2) → j < hi → d[first + p]? = some x → d[first + j]? = some y → Le cf y x
theorem sift_gives (O : TO cf) (E : SE Try.prog enc 2 cf fv blk lim inv) {W : World} {d : List α} (h : SS enc 2 el blk lim cap inv W d) {lo hi first : Nat} (hb : first + hi ≤ d.length) (hd : d.length < 1099511627776) (_ : lo < hi ∨ hi = 0 ∨ lo ≤ hi) (hlo2 : lo < 1099511627776)
    (hp : Hp cf d first lo hi lo) :
    Gives Try.prog 176 #[rw' blk d.length cap, ns lo, ns hi, ns first, fv] W fun v W' => v = .tuple #[] ∧ ∃ d', SS enc 2 el blk lim cap inv W' d' ∧ Sw (first + lo) (first + hi) d d' ∧ Fr (Tn blk lim) W W' ∧ ∀ c, hi ≤ c → Hp cf d' first lo hi c := F176_fn (by
  unfold F176
  refine Lp.i1 (fun i W' => ∃ (r : Nat) (d' : List α), i = (r : Int) ∧ SS enc 2 el blk lim cap inv W' d' ∧ Sw (first + lo) (first + hi) d d' ∧ Fr (Tn blk lim) W W' ∧ lo ≤ r ∧ (r = lo ∨ r < hi) ∧ Hp cf d' first lo hi r ∧ Hg cf d' first lo hi r) (fun i _ => ((hi : Int) - i).toNat)
    ⟨lo, d, rfl, h, .refl, Fr.refl _ _, Nat.le_refl _, .inl rfl, hp, fun p x y hp1 hp2 => by omega⟩ ?_
  rintro _ W1 k ⟨r, d1, rfl, h1, hsw, f1, hr1, hr2, hH, hG⟩ hk
  have hl := hsw.len
  have e2 : IntKind.i64.wrap (2 * (r : Int)) = ((2 * r : Nat) : Int) := by rw [wrap_i64] <;> omega
  refine AsI.mk ?_
  rw [e2, succ_w (a := 2 * r) (by omega)]
  have fin : ∀ W2, SS enc 2 el blk lim cap inv W2 d1 → Fr (Tn blk lim) W W2 → (∀ x y, ∀ j, (j = 2 * r + 1 ∨ j = 2 * r + 2) → j < hi → d1[first + r]? = some x → d1[first + j]? = some y → Le cf y x) →
      (Value.tuple #[] = Value.tuple #[] ∧ ∃ d', SS enc 2 el blk lim cap inv W2 d' ∧ Sw (first + lo) (first + hi) d d' ∧ Fr (Tn blk lim) W W2 ∧ ∀ c, hi ≤ c → Hp cf d' first lo hi c) := fun W2 h2 f2 hc =>
    ⟨rfl, d1, h2, hsw, f2, fun c hcc i x y hi1 j hj hjh _ hx hy => by
      by_cases hir : i = r
      · subst hir; exact hc x y j hj hjh hx hy
      · exact hH i x y hi1 j hj hjh hir hx hy⟩
  refine If.dec (fun hge => fin W1 h1 f1 fun x y j hj hjh => by omega) fun hnge => ?_
  have hch : 2 * r + 1 < hi := by omega
  rw [succ_w (a := 2 * r + 1) (by omega), add_w (a := first) (b := 2 * r + 1) (by omega), succ_w (a := first + (2 * r + 1)) (by omega), add_w (a := first) (b := r) (by omega)]
  refine Join.use fun J hJ => ?_
  -- with the greater child m
  have step : ∀ (m : Nat) W2, SS enc 2 el blk lim cap inv W2 d1 → Fr (Tn blk lim) W W2 → (m = 2 * r + 1 ∨ m = 2 * r + 2) → m < hi → (∀ x y, ∀ j, (j = 2 * r + 1 ∨ j = 2 * r + 2) → j < hi → d1[first + m]? = some x → d1[first + j]? = some y → Le cf y x) →
      IdxS (some ⟨blk, 0, none⟩) d.length ((first + r : Nat) : Int) 2 fun q48 => LdNC W2 q48 2 fun l49 => Any W2 fun W_4 => IdxS (some ⟨blk, 0, none⟩) d.length (IntKind.i64.wrap ((first : Int) + (m : Int))) 2 fun q54 => LdNC W_4 q54 2 fun l55 =>
        YieldK Try.prog (callSem fv #[.agg l49.toArray, .agg l55.toArray]) W_4 (fun _ _ => False) fun u56 W_5 => AsI .i64 u56 fun x56 =>
        If (!(decide ((x56 : Int) < 0))) ((fun (v : Value) W' => v = .tuple #[] ∧ ∃ d', SS enc 2 el blk lim cap inv W' d' ∧ Sw (first + lo) (first + hi) d d' ∧ Fr (Tn blk lim) W W' ∧ ∀ c, hi ≤ c → Hp cf d' first lo hi c) (.tuple #[]) W_5)
          (IdxS (some ⟨blk, 0, none⟩) d.length (IntKind.i64.wrap ((first : Int) + (m : Int))) 2 fun q71 => LdNC W_5 q71 2 fun l72 => Any W_5 fun W_6 => IdxS (some ⟨blk, 0, none⟩) d.length ((first + r : Nat) : Int) 2 fun q77 => LdNC W_6 q77 2 fun l78 =>
            IdxS (some ⟨blk, 0, none⟩) d.length ((first + r : Nat) : Int) 2 fun q79 => StV 2 W_6 q79 (.agg l72.toArray) fun W_7 => IdxS (some ⟨blk, 0, none⟩) d.length (IntKind.i64.wrap ((first : Int) + (m : Int))) 2 fun q80 => StV 2 W_7 q80 (.agg l78.toArray) fun W_8 => k [.int .i64 (m : Int)] W_8) := by
    intro m W2 h2 f2 hm hmh hmax
    rw [add_w (a := first) (b := m) (by omega)]
    have hx : d1[first + r]? = some (d1[first + r]'(by omega)) := List.getElem?_eq_getElem (by omega)
    have hy : d1[first + m]? = some (d1[first + m]'(by omega)) := List.getElem?_eq_getElem (by omega)
    generalize (d1[first + r]'(by omega)) = x at hx
    generalize (d1[first + m]'(by omega)) = y at hy
    refine h2.cmpB E hl.symm rfl rfl hx hy fun W3 h3 f3 => ?_
    by_cases hlt : cf x y < 0
    · rw [decide_eq_true hlt]
      refine If.neg rfl ?_
      refine h3.swap E hl.symm rfl rfl hx hy fun W4 h4 f4 => ?_
      have hxy : Le cf x y := (O.tot x y).resolve_right (fun h => h hlt)
      have er : (swp d1 (first + r) (first + m) x y)[first + r]? = some y := swp_i (by omega) (by omega)
      have em : (swp d1 (first + r) (first + m) x y)[first + m]? = some x := swp_j (by omega)
      refine hk _ _ ⟨m, _, rfl, h4, hsw.step (by omega) (by omega) (by omega) (by omega) hx hy, (f2.trans f3).trans f4, by omega, .inr hmh, fun i u v hi1 j hj hjh him hu hv => ?_, fun p u v hp1 hp2 j hj hjh hu hv => ?_⟩ (by omega)
      · by_cases hir : i = r
        · subst hir
          rw [er] at hu; cases hu
          by_cases hjm : j = m
          · subst hjm; rw [em] at hv; cases hv; exact hxy
          · rw [swp_o (by omega) (by omega)] at hv
            exact hmax _ _ j hj hjh hy hv
        · rw [swp_o (by omega) (by omega)] at hu
          by_cases hjr : j = r
          · subst hjr
            rw [er] at hv; cases hv
            exact hG i u y hi1 hj m hm hmh hu hy
          · by_cases hjm : j = m
            · omega
            · rw [swp_o (by omega) (by omega)] at hv
              exact hH i u v hi1 j hj hjh hir hu hv
      · have : p = r := by omega
        subst this
        rw [er] at hu; cases hu
        rw [swp_o (by omega) (by omega)] at hv
        exact hH m y v (by omega) j hj hjh (by omega) hy hv
    · rw [decide_eq_false hlt]
      refine If.pos rfl (fin W3 h3 (f2.trans f3) fun x' y' j hj hjh hx' hy' => ?_)
      rw [hx] at hx'; cases hx'
      exact O.tr _ _ _ (hmax _ _ j hj hjh hy hy') hlt
  refine If.dec (fun hlt2 => ?_) fun hnlt2 => ?_
  · have hx : d1[first + (2 * r + 1)]? = some (d1[first + (2 * r + 1)]'(by omega)) := List.getElem?_eq_getElem (by omega)
    have hy : d1[first + (2 * r + 1) + 1]? = some (d1[first + (2 * r + 1) + 1]'(by omega)) := List.getElem?_eq_getElem (by omega)
    generalize (d1[first + (2 * r + 1)]'(by omega)) = x at hx
    generalize (d1[first + (2 * r + 1) + 1]'(by omega)) = y at hy
    refine h1.cmpA E hl.symm rfl rfl hx hy fun W2 h2 f2 => ?_
    rw [hJ]
    refine Join.use fun J1 hJ1 => ?_
    rw [hJ1]
    by_cases hlt : cf x y < 0
    · rw [decide_eq_true hlt]
      refine If.pos rfl (step (2 * r + 2) W2 h2 (f1.trans f2) (.inr rfl) (by omega) fun u v j hj hjh hu hv => ?_)
      have e : first + (2 * r + 2) = first + (2 * r + 1) + 1 := by omega
      rw [e, hy] at hu; cases hu
      rcases hj with rfl | rfl
      · rw [hx] at hv; cases hv; exact (O.tot _ _).resolve_right (fun h => h hlt)
      · rw [e, hy] at hv; cases hv; exact (O.tot _ _).elim id id
    · rw [decide_eq_false hlt]
      refine If.neg rfl (step (2 * r + 1) W2 h2 (f1.trans f2) (.inl rfl) hch fun u v j hj hjh hu hv => ?_)
      rw [hx] at hu; cases hu
      rcases hj with rfl | rfl
      · rw [hx] at hv; cases hv; exact (O.tot _ _).elim id id
      · have e : first + (2 * r + 2) = first + (2 * r + 1) + 1 := by omega
        rw [e, hy] at hv; cases hv; exact hlt
  · intro W2 hb2
    rw [hJ]
    refine Join.use fun J1 hJ1 => ?_
    rw [hJ1]
    refine If.neg rfl (step (2 * r + 1) W2 (h1.below E hb2) (f1.trans (frOf hb2)) (.inl rfl) hch fun u v j hj hjh hu hv => ?_)
    rcases hj with rfl | rfl
    · rw [hu] at hv; cases hv; exact (O.tot _ _).elim id id
    · omega)
end
end Go.Proofs.Ytcagnabglppenaa.Sr
