/- Sorting items: pdqsort. -/
import Derived.Test.YtcagnabglppenaaSg
namespace Go.Proofs.Ytcagnabglppenaa.Sr
open Go Go.RowKit Go.Vc Go.Proofs.Ytcagnabglppenaa.Fs

section
variable {α : Type} {enc : α → List Value} {el : TypeId} {cf : α → α → Int} {fv : Value} {blk lim cap : Nat} {inv : World → Prop}
/-- In order, but for what stands within a'..b'. -/
def Out (cf : α → α → Int) (d : List α) (a b a' b' : Nat) : Prop := ∀ p q x y, a ≤ p → p < q → q < b → ¬ (a' ≤ p ∧ q < b') → d[p]? = some x → d[q]? = some y → Le cf x y
theorem Out.sw {d e : List α} {a b a' b' : Nat} (h : Out cf d a b a' b') (hs : Sw a' b' d e) (ha : a ≤ a') (hb : b' ≤ b) (_ : b ≤ d.length) : Out cf e a b a' b' := fun p q x y hp hpq hq hn hx hy => by
  by_cases hpi : a' ≤ p ∧ p < b'
  · have hqo : b' ≤ q := by omega
    rw [hs.out (.inr hqo)] at hy
    exact hs.all (p := fun z => Le cf z y) (fun k z h1 h2 hz => h k q z y (by omega) (by omega) hq (by omega) hz hy) p x hpi.1 hpi.2 hx
  · rw [hs.out (by omega)] at hx
    by_cases hqi : a' ≤ q ∧ q < b'
    · exact hs.all (p := fun z => Le cf x z) (fun k z h1 h2 hz => h p k x z hp (by omega) (by omega) (by omega) hx hz) q y hqi.1 hqi.2 hy
    · rw [hs.out (by omega)] at hy
      exact h p q x y hp hpq hq hn hx hy
theorem Out.done {d : List α} {a b a' b' : Nat} (h : Out cf d a b a' b') (hs : Srtd cf d a' b') : Srtd cf d a b := fun p q x y hp hpq hq hx hy => by
  by_cases hin : a' ≤ p ∧ q < b'
  · exact hs p q x y hin.1 hpq hin.2 hx hy
  · exact h p q x y hp hpq hq hin hx hy
theorem Ahead.of_out {d : List α} {a b a' b' : Nat} (h0 : Ahead cf d a b) (h : Out cf d a b a' b') (ha : a ≤ a') (hb : b' ≤ b) : Ahead cf d a' b' := fun hp k x y hk1 hk2 hx hy => by
  by_cases he : a' = a
  · subst he; exact h0 hp k x y hk1 (by omega) hx hy
  · exact h (a' - 1) k y x (by omega) (by omega) (by omega) (by omega) hy hx
theorem Ahead.less {d : List α} {a b b' : Nat} (h : Ahead cf d a b) (hb : b' ≤ b) : Ahead cf d a b' := fun h0 k x y h1 h2 hx hy => h h0 k x y h1 (by omega) hx hy
theorem Part.swl {d e : List α} {a b mid : Nat} {x : α} (h : Part cf d a b mid x) (_ : a ≤ mid) (s : Sw a mid d e) : Part cf e a b mid x :=
  ⟨by rw [s.out (.inr (Nat.le_refl _))]; exact h.1, fun k y h1 h2 hy => s.all (p := fun z => cf z x < 0) (fun k z h1 h2 hz => h.2.1 k z h1 h2 hz) k y h1 h2 hy,
    fun k y h1 h2 hy => by rw [s.out (by omega)] at hy; exact h.2.2 k y h1 h2 hy⟩
theorem Part.swr {d e : List α} {a b mid : Nat} {x : α} (h : Part cf d a b mid x) (s : Sw (mid + 1) b d e) : Part cf e a b mid x :=
  ⟨by rw [s.out (by omega)]; exact h.1, fun k y h1 h2 hy => by rw [s.out (by omega)] at hy; exact h.2.1 k y h1 h2 hy,
    fun k y h1 h2 hy => s.all (p := fun z => ¬ cf z x < 0) (fun k z h1 h2 hz => h.2.2 k z (by omega) h2 hz) k y (by omega) h2 hy⟩
theorem lt_le (O : TO cf) {x y : α} (h : cf x y < 0) : Le cf x y := (O.tot x y).resolve_right (fun k => k h)
theorem Part.outl (O : TO cf) {d : List α} {a b mid : Nat} {x : α} (h : Part cf d a b mid x) (s : Srtd cf d a mid) : Out cf d a b (mid + 1) b := fun p q u v hp hpq hq hn hu hv => by
  rcases Nat.lt_trichotomy p mid with hpm | hpm | hpm
  · have hux := lt_le O (h.2.1 p u hp hpm hu)
    rcases Nat.lt_trichotomy q mid with hqm | hqm | hqm
    · exact s p q u v hp hpq hqm hu hv
    · subst hqm; rw [h.1] at hv; cases hv; exact hux
    · exact O.tr _ _ _ hux (h.2.2 q v hqm hq hv)
  · subst hpm; rw [h.1] at hu; cases hu; exact h.2.2 q v hpq hq hv
  · exact absurd ⟨hpm, hq⟩ hn
theorem Part.outr (O : TO cf) {d : List α} {a b mid : Nat} {x : α} (h : Part cf d a b mid x) (s : Srtd cf d (mid + 1) b) : Out cf d a b a mid := fun p q u v hp hpq hq hn hu hv => by
  rcases Nat.lt_trichotomy q mid with hqm | hqm | hqm
  · exact absurd ⟨hp, hqm⟩ hn
  · subst hqm; rw [h.1] at hv; cases hv; exact lt_le O (h.2.1 p u hp hpq hu)
  · have hxv := h.2.2 q v hqm hq hv
    rcases Nat.lt_trichotomy p mid with hpm | hpm | hpm
    · exact O.tr _ _ _ (lt_le O (h.2.1 p u hp hpm hu)) hxv
    · subst hpm; rw [h.1] at hu; cases hu; exact hxv
    · exact s p q u v hpm hpq hq hu hv
theorem pdq_gives (O : TO cf) (E : SE Try.prog enc 2 cf fv blk lim inv) : ∀ (n a b : Nat) (d : List α) (W : World) (limit : Int), b - a ≤ n → a ≤ b → b ≤ d.length → d.length < 1099511627776 → SS enc 2 el blk lim cap inv W d → Ahead cf d a b →
    Gives Try.prog 148 #[rw' blk d.length cap, ns a, ns b, .int .i64 limit, fv] W fun v W' => v = .tuple #[] ∧ ∃ d', SS enc 2 el blk lim cap inv W' d' ∧ Sw a b d d' ∧ Fr (Tn blk lim) W W' ∧ Srtd cf d' a b := by
  intro n
  induction n using Nat.strongRecOn with
  | _ n ih =>
  intro a b d W limit hn hab hb hd h hah
  refine F148_fn ?_
  unfold F148
  refine Lp.enc (fun s : Int × Bool × Int × Bool × Int => [.int .i64 s.1, .bool s.2.1, .int .i64 s.2.2.1, .bool s.2.2.2.1, .int .i64 s.2.2.2.2])
    (fun s t hst => by simp at hst; exact Prod.ext hst.1 (Prod.ext hst.2.1 (Prod.ext hst.2.2.1 (Prod.ext hst.2.2.2.1 hst.2.2.2.2))))
    (fun s W' => ∃ (a' b' : Nat) (d' : List α), s.2.2.1 = (a' : Int) ∧ s.2.2.2.2 = (b' : Int) ∧ SS enc 2 el blk lim cap inv W' d' ∧ Sw a b d d' ∧ Fr (Tn blk lim) W W' ∧ a ≤ a' ∧ a' ≤ b' ∧ b' ≤ b ∧ Out cf d' a b a' b') (fun s _ => (s.2.2.2.2 - s.2.2.1).toNat) (limit, true, (a : Int), true, (b : Int)) rfl
    ⟨a, b, d, rfl, rfl, h, .refl, Fr.refl _ _, Nat.le_refl _, hab, Nat.le_refl _, fun p q x y hp hpq hq hn => by omega⟩ ?_
  rintro ⟨lm, b11, _, b10, _⟩ W1 k ⟨a', b', d1, rfl, rfl, h1, hsw1, f1, ha1, hab1, hb1, hO1⟩ hk
  have hl1 := hsw1.len
  have hah1 : Ahead cf d1 a' b' := (hah.sw hsw1).of_out hO1 ha1 hb1
  refine AsI.mk (AsB.mk (AsI.mk (AsB.mk (AsI.mk (Join.use fun J hJ => ?_)))))
  have hlb : b' ≤ d1.length := by omega
  have hdl : d1.length < 1099511627776 := by omega
  have fin : ∀ W2 d2, SS enc 2 el blk lim cap inv W2 d2 → Sw a' b' d1 d2 → Fr (Tn blk lim) W W2 → Srtd cf d2 a' b' →
      (Value.tuple #[] = .tuple #[] ∧ ∃ d', SS enc 2 el blk lim cap inv W2 d' ∧ Sw a b d d' ∧ Fr (Tn blk lim) W W2 ∧ Srtd cf d' a b) := fun W2 d2 h2 s2 f2 o2 =>
    ⟨rfl, d2, h2, hsw1.trans (s2.mono ha1 hb1), f2, (hO1.sw s2 ha1 hb1 (by omega)).done o2⟩
  have goOn : ∀ (a2 b2 : Nat) (d2 : List α) (lm2 : Int) (c10 c11 : Bool) (W2 : World), SS enc 2 el blk lim cap inv W2 d2 → Sw a' b' d1 d2 → Fr (Tn blk lim) W W2 → a' ≤ a2 → a2 ≤ b2 → b2 ≤ b' → b2 - a2 < b' - a' → Out cf d2 a' b' a2 b2 →
      J (a2 : Int) (b2 : Int) lm2 c10 c11 W2 := by
    intro a2 b2 d2 lm2 c10 c11 W2 h2 s2 f2 q1 q2 q3 q4 o2
    rw [hJ]
    refine hk (lm2, c11, (a2 : Int), c10, (b2 : Int)) W2 ⟨a2, b2, d2, rfl, rfl, h2, hsw1.trans (s2.mono ha1 hb1), f2, by omega, q2, by omega, fun p q x y hp hpq hq hn hx hy => ?_⟩ (by simp only; omega)
    by_cases hin : a' ≤ p ∧ q < b'
    · exact o2 p q x y hin.1 hpq hin.2 hn hx hy
    · exact (hO1.sw s2 ha1 hb1 (by omega)) p q x y hp hpq hq hin hx hy
  rw [sub_w hab1 (by omega)]
  refine If.dec (fun hle => ?_) fun hgt => ?_
  · have g := insertion_gives O E h1 (a := a') (b := b') hlb hab1 hdl
    rw [hl1] at g
    refine CallK.mk g ?_
    rintro _ W2 ⟨rfl, d2, h2, s2, f2, o2⟩
    exact fin W2 d2 h2 s2 (f1.trans f2) o2
  have h12 : a' + 12 < b' := by omega
  refine If.beq (fun _ => ?_) fun _ => ?_
  · have g := heapsort_gives O E h1 (a := a') (b := b') (by omega) hlb hdl
    rw [hl1] at g
    refine CallK.mk g ?_
    rintro _ W2 ⟨rfl, d2, h2, s2, f2, o2⟩
    exact fin W2 d2 h2 s2 (f1.trans f2) o2
  refine Join.use fun J1 hJ1 => ?_
  have step : ∀ (lm2 : Int) (W2 : World) (d2 : List α), SS enc 2 el blk lim cap inv W2 d2 → Sw a' b' d1 d2 → Fr (Tn blk lim) W W2 → J1 lm2 W2 := by
    intro lm2 W2 d2 h2 s2 f2
    have hl2 := s2.len
    rw [hJ1]
    have g := pivot_gives E h2 (a := a') (b := b') h12 (by omega) (by omega)
    rw [hl2.trans hl1] at g
    refine CallK.mk g ?_
    rintro _ W3 ⟨k0, hint, rfl, hk1, hk2, h3, f3⟩
    refine ⟨_, _, rfl, _, rfl, _, rfl, ?_⟩
    refine Join.use fun J2 hJ2 => ?_
    have rev : ∀ (pv : Nat) (hi2 : Int) (W4 : World) (d4 : List α), SS enc 2 el blk lim cap inv W4 d4 → Sw a' b' d1 d4 → Fr (Tn blk lim) W W4 → a' ≤ pv → pv < b' → J2 (pv : Int) hi2 W4 := by
      intro pv hi2 W4 d4 h4 s4 f4 p1 p2
      rw [hJ2]
      refine Join.use fun J3 hJ3 => ?_
      have all3 : ∀ b71, J3 b71 W4 := by
        intro b71
        rw [hJ3]
        refine Join.use fun J4 hJ4 => ?_
        have all4 : ∀ b75, J4 b75 W4 := by
          intro b75
          rw [hJ4]
          refine Join.use fun J5 hJ5 => ?_
          have all5 : ∀ (W5 : World) (d5 : List α), SS enc 2 el blk lim cap inv W5 d5 → Sw a' b' d1 d5 → Fr (Tn blk lim) W W5 → J5 W5 := by
            intro W5 d5 h5 s5 f5
            have hl5 := s5.len
            have hah5 : Ahead cf d5 a' b' := hah1.sw s5
            rw [hJ5]
            refine Join.use fun J6 hJ6 => ?_
            have hxp : d5[pv]? = some (d5[pv]'(by omega)) := List.getElem?_eq_getElem (by omega)
            generalize (d5[pv]'(by omega)) = x at hxp
            have part : ∀ W6, SS enc 2 el blk lim cap inv W6 d5 → Fr (Tn blk lim) W W6 → J6 false W6 := by
              intro W6 h6 f6
              rw [hJ6]
              refine If.neg rfl ?_
              have g := part_gives E h6 (a := a') (b := b') (p := pv) p1 p2 (by omega) (by omega) hxp
              rw [hl5.trans hl1] at g
              refine CallK.mk g ?_
              rintro _ W7 ⟨mid, d7, al, rfl, m1, m2, h7, s7, f7, hP⟩
              refine ⟨_, _, rfl, _, rfl, _, rfl, by decide, Join.use fun J7 hJ7 => ?_⟩
              have hl7 := s7.len
              have s17 := s5.trans s7
              have f17 := f6.trans f7
              refine If.dec (fun _ => ?_) fun _ => ?_
              · have g := ih (mid - a') (by omega) a' mid d7 W7 lm2 (Nat.le_refl _) m1 (by omega) (by omega) h7 ((hah1.sw s17).less (by omega))
                rw [hl7.trans (hl5.trans hl1)] at g
                refine CallK.mk g ?_
                rintro _ W8 ⟨rfl, d8, h8, s8, f8, o8⟩
                rw [hJ7, succ_w (a := mid) (by omega)]
                exact goOn (mid + 1) b' d8 _ _ _ W8 h8 (s17.trans (s8.mono (Nat.le_refl _) (by omega))) (f17.trans f8) (by omega) (by omega) (Nat.le_refl _) (by omega) ((hP.swl m1 s8).outl O o8)
              · have g := ih (b' - (mid + 1)) (by omega) (mid + 1) b' d7 W7 lm2 (Nat.le_refl _) (by omega) (by omega) (by omega) h7 (fun _ k u v hk1 hk2 hu hv => by
                  rw [Nat.add_sub_cancel, hP.1] at hv; cases hv; exact hP.2.2 k u (by omega) hk2 hu)
                rw [hl7.trans (hl5.trans hl1)] at g
                rw [succ_w (a := mid) (by omega)]
                refine CallK.mk g ?_
                rintro _ W8 ⟨rfl, d8, h8, s8, f8, o8⟩
                rw [hJ7]
                exact goOn a' mid d8 _ _ _ W8 h8 (s17.trans (s8.mono (by omega) (Nat.le_refl _))) (f17.trans f8) (Nat.le_refl _) m1 (by omega) (by omega) ((hP.swr s8).outr O o8)
            refine If.dec (fun ha0' => ?_) fun _ => ?_
            · have ha0 : (0 : Int) < (a' : Int) := ha0'
              have hy : d5[a' - 1]? = some (d5[a' - 1]'(by omega)) := List.getElem?_eq_getElem (by omega)
              generalize (d5[a' - 1]'(by omega)) = y at hy
              rw [pred_w (a := a') (by omega) (by omega)]
              refine h5.cmpA E (hl5.trans hl1).symm rfl rfl hy hxp fun W6 h6 f6 => ?_
              by_cases hlt : cf y x < 0
              · rw [decide_eq_true hlt]
                exact part W6 h6 (f5.trans f6)
              · rw [decide_eq_false hlt, hJ6]
                refine If.pos rfl ?_
                have g := parteq_gives E h6 (a := a') (b := b') (p := pv) p1 p2 (by omega) (by omega) hxp (by rcases O.tot x x with h | h <;> exact h)
                rw [hl5.trans hl1] at g
                refine CallK.mk g ?_
                rintro _ W7 ⟨mid, d7, rfl, m1, m2, h7, s7, f7, hlo, hhi⟩
                refine ⟨_, rfl, ?_⟩
                have hah7 := hah5.sw s7
                have hy7 : d7[a' - 1]? = some y := by rw [s7.out (by omega)]; exact hy
                refine goOn mid b' d7 _ _ _ W7 h7 (s5.trans s7) ((f5.trans f6).trans f7) (by omega) m2 (Nat.le_refl _) (by omega) fun p q u v hp hpq hq hn hu hv => ?_
                have hpm : p < mid := by omega
                have hux : Le cf u x := hlo p u hp hpm hu
                by_cases hqm : q < mid
                · exact O.tr _ _ _ hux (O.tr _ _ _ hlt (hah7 (by omega) q v y (by omega) (by omega) hv hy7))
                · exact O.tr _ _ _ hux (lt_le O (hhi q v (by omega) hq hv))
            · intro W6 hb6
              exact part W6 (h5.below E hb6) (f5.trans (frOf hb6))
          refine If.split (fun _ => ?_) fun _ => all5 W4 d4 h4 s4 f4
          have hl4 := s4.len
          have g := partial_gives O E h4 (a := a') (b := b') h12 (by omega) (by omega) (hah1.sw s4)
          rw [hl4.trans hl1] at g
          refine CallK.mk g ?_
          rintro _ W5 ⟨r, d5, rfl, h5, s5, f5, o5⟩
          refine ⟨_, rfl, If.split (fun hr => ?_) fun _ => all5 W5 d5 h5 (s4.trans s5) (f4.trans f5)⟩
          exact fin W5 d5 h5 (s4.trans s5) (f4.trans f5) (o5 hr)
        exact If.split (fun _ => all4 _) fun _ => all4 _
      exact If.split (fun _ => all3 _) fun _ => all3 _
    refine If.beq (fun _ => ?_) fun _ => rev k0 hint W3 d2 h3 s2 (f2.trans f3) hk1 hk2
    have g := reverse_gives E h3 (a := a') (b := b') (by omega) (by omega) (by omega)
    rw [hl2.trans hl1] at g
    refine CallK.mk g ?_
    rintro _ W4 ⟨rfl, d4, h4, s4, f4⟩
    rw [pred_w (a := b') (by omega) (by omega), sub_w hk1 (by omega), sub_w (a := k0 - a') (b := b' - 1) (by omega) (by omega)]
    exact rev _ _ W4 d4 h4 (s2.trans s4) ((f2.trans f3).trans f4) (by omega) (by omega)
  refine If.split (fun _ => ?_) fun _ => step _ W1 d1 h1 .refl f1
  have g := break_gives E h1 (a := a') (b := b') h12 hlb hdl
  rw [hl1] at g
  refine CallK.mk g ?_
  rintro _ W2 ⟨rfl, d2, h2, s2, f2⟩
  exact step _ W2 d2 h2 s2 (f1.trans f2)
theorem sort_gives (O : TO cf) (E : SE Try.prog enc 2 cf fv blk lim inv) {W : World} {d : List α} (h : SS enc 2 el blk lim cap inv W d) (hd : d.length < 1099511627776) :
    Gives Try.prog 125 #[rw' blk d.length cap, fv] W fun v W' => v = .tuple #[] ∧ ∃ d', SS enc 2 el blk lim cap inv W' d' ∧ d'.Perm d ∧ Fr (Tn blk lim) W W' ∧ Srtd cf d' 0 d.length := F125_fn (by
  unfold F125
  rw [wrap_u64 (by omega) (by omega)]
  refine CallK.mk (len_gives d.length (by omega) W) ?_
  rintro _ _ ⟨rfl, n, rfl, _⟩
  refine ⟨_, rfl, ?_⟩
  refine CallK.mk (pdq_gives O E d.length 0 d.length d _ _ (by omega) (by omega) (Nat.le_refl _) hd h (fun h => by omega)) ?_
  rintro _ W2 ⟨rfl, d2, h2, s2, f2, o2⟩
  exact ⟨rfl, d2, h2, s2.perm, f2, o2⟩)
end
end Go.Proofs.Ytcagnabglppenaa.Sr
