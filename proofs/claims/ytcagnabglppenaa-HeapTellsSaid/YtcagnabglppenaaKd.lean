/- The heap of numbers: up and down. -/
import Derived.Test.YtcagnabglppenaaKb
import Derived.Test.YtcagnabglppenaaKc
namespace Go.Proofs.Ytcagnabglppenaa.Hp
open Go Go.RowKit Go.Vc Go.Proofs.Ytcagnabglppenaa.Fs Go.Proofs.Ytcagnabglppenaa.Hl

def leI (x y : Item) : Prop := cmpI x y ≤ 0
theorem leI_iff (x y : Item) : leI x y ↔ x.2 < y.2 ∨ (x.2 = y.2 ∧ x.1 ≤ y.1) := by
  unfold leI cmpI ordI
  split
  · constructor <;> intro <;> omega
  · split
    · constructor <;> intro <;> omega
    · split
      · constructor <;> intro <;> omega
      · split <;> constructor <;> intro <;> omega
theorem leI_tot (x y : Item) : leI x y ∨ leI y x := by rw [leI_iff, leI_iff]; omega
theorem leI_tr (x y z : Item) : leI x y → leI y z → leI x z := by rw [leI_iff, leI_iff, leI_iff]; omega
theorem leI_rf (x : Item) : leI x x := by rw [leI_iff]; omega
theorem cmpI_neg (x y : Item) : cmpI x y < 0 ↔ ¬ leI y x := by
  rw [leI_iff]
  unfold cmpI ordI
  split
  · constructor <;> intro <;> omega
  · split
    · constructor <;> intro <;> omega
    · split
      · constructor <;> intro <;> omega
      · split <;> constructor <;> intro <;> omega
/-- Where each key stands. -/
def MapsTo (f : Int → Option Nat) (l : List Item) : Prop := ∀ k i, f k = some i ↔ ∃ w, l[i]? = some (k, w)
theorem MapsTo.swap {f : Int → Option Nat} {l : List Item} (h : MapsTo f l) {i j : Nat} {a b : Item} (hi : l[i]? = some a) (hj : l[j]? = some b) :
    MapsTo (upd (upd f b.1 (some i)) a.1 (some j)) (swapL l i j a b) := by
  have hil := (List.getElem?_eq_some_iff.1 hi).1
  have hjl := (List.getElem?_eq_some_iff.1 hj).1
  have fa : f a.1 = some i := (h a.1 i).2 ⟨a.2, hi⟩
  have fb : f b.1 = some j := (h b.1 j).2 ⟨b.2, hj⟩
  intro k n
  by_cases hka : k = a.1
  · subst hka
    rw [upd_same]
    constructor
    · intro e; cases e; exact ⟨a.2, swapL_j hjl⟩
    · rintro ⟨w, hw⟩
      by_cases hnj : n = j
      · rw [hnj]
      · by_cases hni : n = i
        · subst hni
          rw [swapL_i hil hnj] at hw
          have : b.1 = a.1 := by cases hw; rfl
          rw [this, fa] at fb
          exact fb.symm
        · rw [swapL_o hni hnj] at hw
          have := (h a.1 n).2 ⟨w, hw⟩
          rw [fa] at this
          exact absurd (Option.some.inj this).symm hni
  · rw [upd_other _ _ hka]
    by_cases hkb : k = b.1
    · subst hkb
      rw [upd_same]
      have hij : i ≠ j := fun e => by subst e; rw [hi] at hj; cases hj; exact hka rfl
      constructor
      · intro e; cases e; exact ⟨b.2, swapL_i hil hij⟩
      · rintro ⟨w, hw⟩
        by_cases hni : n = i
        · rw [hni]
        · by_cases hnj : n = j
          · subst hnj
            rw [swapL_j hjl] at hw
            cases hw
            exact absurd rfl hka
          · rw [swapL_o hni hnj] at hw
            have := (h b.1 n).2 ⟨w, hw⟩
            rw [fb] at this
            exact absurd (Option.some.inj this).symm hnj
    · rw [upd_other _ _ hkb, h k n]
      by_cases hni : n = i
      · subst hni
        constructor
        · rintro ⟨w, hw⟩; rw [hi] at hw; cases hw; exact absurd rfl hka
        · rintro ⟨w, hw⟩
          by_cases hij : n = j
          · subst hij; rw [swapL_j hjl] at hw; cases hw; exact absurd rfl hka
          · rw [swapL_i hil hij] at hw; cases hw; exact absurd rfl hkb
      · by_cases hnj : n = j
        · subst hnj
          constructor
          · rintro ⟨w, hw⟩; rw [hj] at hw; cases hw; exact absurd rfl hkb
          · rintro ⟨w, hw⟩; rw [swapL_j hjl] at hw; cases hw; exact absurd rfl hka
        · rw [swapL_o hni hnj]
structure HeapC (W : World) (B m : Nat) (sl : Value) (l : List Item) : Prop where
  g : ∃ f, HeapG W B m sl l f ∧ MapsTo f l
  len : l.length < 1099511627776
theorem HeapC.below {W W' : World} {B m : Nat} {sl : Value} {l : List Item} (h : HeapC W B m sl l) (hb : Below W.heap.size W W') : HeapC W' B m sl l := by
  obtain ⟨⟨f, h1, h2⟩, h3⟩ := h; exact ⟨⟨f, h1.below hb, h2⟩, h3⟩
theorem HeapC.fr {S : Nat → Prop} {W W' : World} {B m : Nat} {sl : Value} {l : List Item} (h : HeapC W B m sl l) (hf : Fr S W W') (hs : ∀ b, foot B m sl b → b < W.heap.size → ¬ S b) : HeapC W' B m sl l := by
  obtain ⟨⟨f, h1, h2⟩, h3⟩ := h; exact ⟨⟨f, h1.fr hf (fun b hb => hs b hb (h1.foot_lt hb)), h2⟩, h3⟩
theorem swapC_gives {W : World} {B m : Nat} {sl : Value} {l : List Item} (h : HeapC W B m sl l) {i j : Nat} {a b : Item} (hi : l[i]? = some a) (hj : l[j]? = some b) :
    Gives Try.prog 62 #[ptr B, .int .i64 (i : Int), .int .i64 (j : Int)] W fun v W' => v = .tuple #[] ∧ HeapC W' B m sl (swapL l i j a b) ∧ Fr (foot B m sl) W W' := by
  obtain ⟨⟨f, h1, h2⟩, h3⟩ := h
  exact (swap_gives h1 hi hj).mono fun v W' ⟨e, hh, hf⟩ => ⟨e, ⟨⟨_, hh, h2.swap hi hj⟩, by rw [swapL_len]; exact h3⟩, hf⟩
theorem par_int {c : Nat} (h0 : 0 < c) (h1 : c < 1099511627776) : IntKind.i64.wrap ((IntKind.i64.wrap ((c : Int) - 1)).tdiv 2) = ((par c : Nat) : Int) := by
  rw [wrap_i64 (x := (c : Int) - 1) (by omega) (by omega)]
  have : ((c : Int) - 1).tdiv 2 = ((par c : Nat) : Int) := by
    unfold par
    rw [show (c : Int) - 1 = ((c - 1 : Nat) : Int) by omega]
    rfl
  rw [this, wrap_i64] <;> (unfold par; omega)
theorem up_gives {W : World} {B m : Nat} {sl : Value} {l : List Item} (h : HeapC W B m sl l) {i : Nat} (hi : i < l.length) (ha : Alm leI l i) :
    Gives Try.prog 58 #[ptr B, .int .i64 (i : Int)] W fun v W' => v = .tuple #[] ∧ (∃ l', HeapC W' B m sl l' ∧ l'.Perm l ∧ AlmD leI l' i) ∧ Fr (foot B m sl) W W' := F58_fn (by
  unfold F58
  refine Lp.i1 (fun c W' => ∃ cn : Nat, c = (cn : Int) ∧ ∃ l', HeapC W' B m sl l' ∧ l'.Perm l ∧ cn < l'.length ∧ Fr (foot B m sl) W W' ∧ ((cn = i ∧ l' = l) ∨ AlmU leI l' cn)) (fun c _ => c.toNat)
    ⟨i, rfl, l, h, List.Perm.refl _, hi, Fr.refl _ _, .inl ⟨rfl, rfl⟩⟩ ?_
  rintro _ W' k ⟨c, rfl, l', h', hp, hc, hfr, hcase⟩ hk
  have hlen := h'.len
  obtain ⟨⟨f, hg, hmt⟩, _⟩ := h'
  have halm : Alm leI l' c := by
    rcases hcase with ⟨rfl, rfl⟩ | hu
    · exact ha
    · exact hu.alm
  have fin : (∀ x y, 0 < c → l'[c]? = some x → l'[par c]? = some y → leI y x) → AlmD leI l' i := fun hh => by
    rcases hcase with ⟨rfl, rfl⟩ | hu
    · exact halm.almD hh
    · exact (hu.heap hh).almD leI_tr i
  refine ⟨_, rfl, If.dec (fun hpos => ⟨by decide, ?_⟩) fun hnp => ?_⟩
  · have hc0 : 0 < c := by omega
    have hpc := par_lt hc0
    obtain ⟨g, cap, cur, rfl, hgc, hc1, hc2, hc3, hc4⟩ := SlR.own hg.hs hc
    have hx : l'[c]? = some l'[c] := List.getElem?_eq_getElem hc
    have hy : l'[par c]? = some (l'[par c]'(by omega)) := List.getElem?_eq_getElem (by omega)
    generalize l'[c] = x at hx
    generalize (l'[par c]'(by omega)) = y at hy
    refine Ld1.ad hg.hB rfl ⟨_, _, _, rfl, ?_⟩
    refine IdxS.mk (par_int hc0 (by omega)) (by omega) ?_
    refine LdNC.ad hgc (cs := encC y) rfl (by rw [Nat.zero_add]; exact row_get encC_len hc4 hy) ?_
    refine Ld1.ad hg.hB rfl ⟨_, _, _, rfl, ?_⟩
    intro W2 hb2
    refine IdxS.mk rfl hc ?_
    have hgc2 := belowAt hb2 hgc
    have hB2 := belowAt hb2 hg.hB
    refine LdNC.ad hgc2 (cs := encC x) rfl (by rw [Nat.zero_add]; exact row_get encC_len hc4 hx) ?_
    refine CallK.mk (cmp_gives hB2 y x) ?_
    rintro _ W3 ⟨rfl, hb3⟩
    refine ⟨_, rfl, ?_⟩
    have hgc3 := belowAt hb3 hgc2
    have hB3 := belowAt hb3 hB2
    have hb13 := hb2.trans (hb3.mono hb2.size)
    have hC3 : HeapC W3 B m (.slice (some ⟨g, 0, none⟩) l'.length cap) l' := ⟨⟨f, hg.below hb13, hmt⟩, hlen⟩
    refine If.dec (fun hle => ?_) fun hnle => ?_
    · refine ⟨rfl, ⟨l', hC3, hp, fin fun x' y' _ hx' hy' => ?_⟩, hfr.trans (frOf hb13)⟩
      rw [hx] at hx'; rw [hy] at hy'; cases hx'; cases hy'; exact hle
    · rw [par_int hc0 (by omega)]
      refine CallK.mk (swapC_gives hC3 hy hx) ?_
      rintro _ W4 ⟨rfl, hC4, hf4⟩
      refine hk _ _ ⟨par c, rfl, _, hC4, (swapL_perm hy hx).trans hp, by rw [swapL_len]; omega, (hfr.trans (frOf hb13)).trans hf4, .inr ?_⟩ (by simp; omega)
      exact halm.up leI_tot leI_tr hc0 hx hy hnle
  · have hc0 : c = 0 := by omega
    exact ⟨rfl, ⟨l', ⟨⟨f, hg, hmt⟩, hlen⟩, hp, fin fun _ _ h => by omega⟩, hfr⟩)
theorem child_int {c : Nat} (h1 : c < 1099511627776) : IntKind.i64.wrap ((IntKind.i64.wrap (2 * (c : Int))) + 1) = ((2 * c + 1 : Nat) : Int) ∧ IntKind.i64.wrap ((IntKind.i64.wrap (2 * (c : Int))) + 2) = ((2 * c + 2 : Nat) : Int) := by
  rw [wrap_i64 (x := 2 * (c : Int)) (by omega) (by omega)]
  constructor <;> rw [wrap_i64] <;> omega
theorem down_gives {W : World} {B m : Nat} {sl : Value} {l : List Item} (h : HeapC W B m sl l) {i : Nat} (hi : i < l.length) (ha : AlmD leI l i) :
    Gives Try.prog 60 #[ptr B, .int .i64 (i : Int)] W fun v W' => v = .tuple #[] ∧ (∃ l', HeapC W' B m sl l' ∧ l'.Perm l ∧ HeapL leI l') ∧ Fr (foot B m sl) W W' := F60_fn (by
  unfold F60
  refine Lp.i1 (fun c W' => ∃ cn : Nat, c = (cn : Int) ∧ ∃ l', HeapC W' B m sl l' ∧ l'.Perm l ∧ cn < l'.length ∧ Fr (foot B m sl) W W' ∧ AlmD leI l' cn) (fun c _ => (l.length - c).toNat)
    ⟨i, rfl, l, h, List.Perm.refl _, hi, Fr.refl _ _, ha⟩ ?_
  rintro _ W' k ⟨c, rfl, l', h', hp, hc, hfr, hD⟩ hk
  have hlen := h'.len
  have hll : l'.length = l.length := hp.length_eq
  refine ⟨_, rfl, ?_⟩
  obtain ⟨ch1, ch2⟩ := child_int (c := c) (by omega)
  rw [ch1, ch2]
  have hx : l'[c]? = some l'[c] := List.getElem?_eq_getElem hc
  generalize l'[c] = x at hx
  refine Lp.i2 (fun s d W2 => ∃ sn dn : Nat, s = (sn : Int) ∧ d = (dn : Int) ∧ HeapC W2 B m sl l' ∧ Fr (foot B m sl) W W2 ∧ (sn = c ∨ (0 < sn ∧ par sn = c)) ∧ sn < l'.length ∧ 2 * c + 1 ≤ dn ∧ dn ≤ 2 * c + 3 ∧
      (∃ y, l'[sn]? = some y ∧ leI y x ∧ ∀ j u, 0 < j → par j = c → j < dn → l'[j]? = some u → leI y u)) (fun _ d _ => (2 * c + 3 - d).toNat)
    ⟨c, 2 * c + 1, rfl, rfl, h', hfr, .inl rfl, hc, by omega, by omega, x, hx, leI_rf x, fun j u hj hpj hlt => by unfold par at hpj; omega⟩ ?_
  rintro _ _ W2 k2 ⟨s, d, rfl, rfl, h2, hf2, hs, hsl, hd1, hd2, y, hy, hyx, hleast⟩ hk2
  obtain ⟨⟨f, hg, hmt⟩, _⟩ := h2
  refine ⟨_, rfl, _, rfl, ?_⟩
  -- the end of the inner loop
  have fin : ∀ W3, HeapC W3 B m sl l' → Fr (foot B m sl) W W3 → (∀ j u, 0 < j → par j = c → l'[j]? = some u → leI y u) →
      If ((s : Int) == (c : Int)) ((fun (v : Value) W' => v = .tuple #[] ∧ (∃ l', HeapC W' B m sl l' ∧ l'.Perm l ∧ HeapL leI l') ∧ Fr (foot B m sl) W W') (.tuple #[]) W3)
        (CallK Try.prog 62 #[.pointer (some ⟨B, 0, none⟩), .int .i64 (c : Int), .int .i64 (s : Int)] W3 (fun _ _ => False) fun u50 W_7 => k [.int .i64 (s : Int)] W_7) := by
    intro W3 h3 hf3 hall
    refine If.beq (fun he => ?_) fun hne => ?_
    · have he' : s = c := by omega
      subst he'
      rw [hx] at hy; cases hy
      exact ⟨rfl, ⟨l', h3, hp, hD.heap fun j u v hj hpj hu hv => by rw [hx] at hv; cases hv; exact hall j u hj hpj hu⟩, hf3⟩
    · have hs' : 0 < s ∧ par s = c := hs.resolve_left (by omega)
      have hpl := par_lt hs'.1
      refine CallK.mk (swapC_gives h3 hx hy) ?_
      rintro _ W4 ⟨rfl, h4, hf4⟩
      refine hk _ _ ⟨s, rfl, _, h4, (swapL_perm hx hy).trans hp, by rw [swapL_len]; exact hsl, hf3.trans hf4, hD.down hs'.1 hs'.2 hx hy hyx hall⟩ ?_
      omega
  refine Join.use fun J hJ => ?_
  have hJf : ∀ W3, HeapC W3 B m sl l' → Fr (foot B m sl) W W3 → (∀ j u, 0 < j → par j = c → l'[j]? = some u → leI y u) → J false W3 := by
    intro W3 h3 hf3 hall
    rw [hJ]
    exact If.neg rfl (fin W3 h3 hf3 hall)
  refine If.dec (fun hle => ?_) fun hnle => ?_
  · have hds : ∃ a cc, sl = .slice a l'.length cc := hg.hs.shape
    obtain ⟨a, cc, hsl'⟩ := hds
    refine Ld1.ad hg.hB (u := sl) rfl ⟨a, l'.length, cc, hsl', ?_⟩
    by_cases hdl : d < l'.length
    · show J (decide ((d : Int) < (l'.length : Int))) W2
      rw [decide_eq_true (by omega : (d : Int) < (l'.length : Int)), hJ]
      obtain ⟨g, cap, cur, rfl, hgc, hc1, hc2, hc3, hc4⟩ := SlR.own hg.hs hc
      have hu : l'[d]? = some l'[d] := List.getElem?_eq_getElem hdl
      generalize l'[d] = u at hu
      refine If.pos rfl ?_
      refine Ld1.ad hg.hB rfl ⟨_, _, _, rfl, ?_⟩
      refine IdxS.mk rfl hdl ?_
      refine LdNC.ad hgc (cs := encC u) rfl (by rw [Nat.zero_add]; exact row_get encC_len hc4 hu) ?_
      refine Ld1.ad hg.hB rfl ⟨_, _, _, rfl, ?_⟩
      intro W3 hb3
      refine IdxS.mk rfl hsl ?_
      have hgc3 := belowAt hb3 hgc
      have hB3 := belowAt hb3 hg.hB
      refine LdNC.ad hgc3 (cs := encC y) rfl (by rw [Nat.zero_add]; exact row_get encC_len hc4 hy) ?_
      refine CallK.mk (cmp_gives hB3 u y) ?_
      rintro _ W4 ⟨rfl, hb4⟩
      refine ⟨_, rfl, ?_⟩
      have hgc4 := belowAt hb4 hgc3
      have hB4 := belowAt hb4 hB3
      have hb24 := hb3.trans (hb4.mono hb3.size)
      have hC4 : HeapC W4 B m (.slice (some ⟨g, 0, none⟩) l'.length cap) l' := ⟨⟨f, hg.below hb24, hmt⟩, hlen⟩
      have hf4 := hf2.trans (frOf (S := foot B m (.slice (some ⟨g, 0, none⟩) l'.length cap)) hb24)
      have hd3 : (d : Int) ≤ ((2 * c + 2 : Nat) : Int) := hle
      have hw : IntKind.i64.wrap ((d : Int) + 1) = ((d + 1 : Nat) : Int) := by rw [wrap_i64] <;> omega
      refine Join.use fun J1 hJ1 => ?_
      have hpd : par d = c := by unfold par; omega
      refine If.dec (fun hlt => ?_) fun hnlt => ?_
      · rw [hJ1]
        have huy := (cmpI_neg u y).1 hlt
        have hle' : leI u y := (leI_tot u y).resolve_right huy
        refine hk2 _ _ _ ⟨d, d + 1, rfl, hw, hC4, hf4, .inr ⟨by omega, hpd⟩, hdl, by omega, by omega, u, hu, leI_tr _ _ _ hle' hyx, fun j v hj hpj hlt' hv => ?_⟩ (by rw [hw]; omega)
        by_cases hjd : j = d
        · subst hjd; rw [hu] at hv; cases hv; exact leI_rf _
        · exact leI_tr _ _ _ hle' (hleast j v hj hpj (by omega) hv)
      · rw [hJ1]
        have huy : leI y u := Classical.byContradiction fun hn => hnlt ((cmpI_neg u y).2 hn)
        refine hk2 _ _ _ ⟨s, d + 1, rfl, hw, hC4, hf4, hs, hsl, by omega, by omega, y, hy, hyx, fun j v hj hpj hlt' hv => ?_⟩ (by rw [hw]; omega)
        by_cases hjd : j = d
        · subst hjd; rw [hu] at hv; cases hv; exact huy
        · exact hleast j v hj hpj (by omega) hv
    · show J (decide ((d : Int) < (l'.length : Int))) W2
      rw [decide_eq_false (by omega : ¬ (d : Int) < (l'.length : Int))]
      refine hJf W2 ⟨⟨f, hg, hmt⟩, hlen⟩ hf2 fun j u hj hpj hu => hleast j u hj hpj ?_ hu
      have := (List.getElem?_eq_some_iff.1 hu).1
      omega
  · refine hJf W2 ⟨⟨f, hg, hmt⟩, hlen⟩ hf2 fun j u hj hpj hu => hleast j u hj hpj ?_ hu
    have hd3 : ¬ (d : Int) ≤ ((2 * c + 2 : Nat) : Int) := hnle
    unfold par at hpj
    omega)
end Go.Proofs.Ytcagnabglppenaa.Hp
