/- The reference's Right. -/
import Derived.Test.YtcagnabglppenaaWw
import Derived.Test.YtcagnabglppenaaWl
namespace Go.Proofs.Ytcagnabglppenaa.Sv
open Go Go.RowKit Go.Vc Go.Proofs.Ytcagnabglppenaa.Fs Go.Proofs.Ytcagnabglppenaa.Px Go.Proofs.Ytcagnabglppenaa.Hq

theorem eq135 : EqTy Try.prog 135 [.int .u64, .int .u64] := ⟨by kernel_rfl, by kernel_rfl, by kernel_rfl, by kernel_rfl, by kernel_rfl⟩
theorem sumC_ub {f : Cnt → Int} {l : List Cnt} (h : ∀ c ∈ l, f c < 18446744073709551616) : sumC f l ≤ 18446744073709551616 * l.length := by
  induction l with
  | nil => simp [sumC]
  | cons x r ih =>
    have h1 := h x (by simp)
    have h2 := ih fun c hc => h c (by simp [hc])
    simp only [sumC, List.length_cons]
    omega
/-- Two halves that come to v. -/
def Two (v : Int) (cs : Array Value) : Prop := ∃ h l, cs = #[.int .u64 h, .int .u64 l] ∧ (0 ≤ h ∧ h < 18446744073709551616) ∧ (0 ≤ l ∧ l < 18446744073709551616) ∧ h * 18446744073709551616 + l = v
theorem Two.at {W : World} {b : Nat} {cs : Array Value} {v : Int} (h : Two v cs) (hb : W.heap[b]? = some (.cells cs 135 (0, 0))) {k : List Value → Prop} (hk : k cs.toList) : LdNC W ⟨b, 0, none⟩ 2 k := by
  obtain ⟨x, y, rfl, _⟩ := h
  exact LdNC.mk hb (cs := [.int .u64 x, .int .u64 y]) rfl rfl hk
theorem Two.most {W : World} {cs : Array Value} {v n : Int} (h : Two v cs) (hn : n < 18446744073709551616) : Gives Try.prog 93 #[.agg cs, .int .u64 n] W fun u W' => u = .bool (decide (v ≤ n)) ∧ Below W.heap.size W W' := by
  obtain ⟨x, y, rfl, h1, h2, h3⟩ := h
  refine (Wd.atMost_gives x y n).mono ?_
  rintro u W' ⟨rfl, hb⟩
  refine ⟨?_, hb⟩
  congr 1
  rw [decide_eq_decide]
  omega
theorem Two.add {W : World} {cs : Array Value} {v w : Int} (h : Two v cs) (hw : 0 ≤ w ∧ w < 18446744073709551616) (hv : v + w < 340282366920938463463374607431768211456) :
    Gives Try.prog 92 #[.agg cs, .agg #[.int .u64 0, .int .u64 w]] W fun u W' => (∃ ds c, u = .tuple #[.agg ds, .bool c] ∧ Two (v + w) ds) ∧ Below W.heap.size W W' := by
  obtain ⟨x, y, rfl, h1, h2, h3⟩ := h
  refine (Wd.add_gives' h1 h2 (bh := 0) (bl := w) (by decide) hw).mono ?_
  rintro u W' ⟨⟨a, b, c, rfl, r1, r2, r3⟩, hb⟩
  exact ⟨⟨_, _, rfl, a, b, rfl, r1, r2, by have := r3 (by omega); omega⟩, hb⟩
theorem Two.zero : Two 0 #[.int .u64 0, .int .u64 0] := ⟨0, 0, rfl, by decide, by decide, by decide⟩
theorem Two.st {W : World} {b : Nat} {cs ds : Array Value} {v w : Int} (h : Two v cs) (hb : W.heap[b]? = some (.cells cs 135 (0, 0))) (hd : Two w ds) {k : World → Prop} (hk : ∀ W', W'.heap[b]? = some (.cells ds 135 (0, 0)) → W'.heap.size = W.heap.size → Fr (fun x => x = b) W W' → k W') : StV 2 W ⟨b, 0, none⟩ (.agg ds) k := by
  obtain ⟨x, y, rfl, _⟩ := h
  obtain ⟨x', y', rfl, _⟩ := hd
  exact StV.to hb (v := .agg #[.int .u64 x', .int .u64 y']) rfl (show 0 + 2 ≤ 2 by decide) rfl (cs := #[.int .u64 x', .int .u64 y']) rfl hk
theorem refRight_gives {W : World} {x : Sv} {a : Option Addr} {n c : Nat} (hw : Wf x) (hr : RdL W 14 encN a x.l) (hn : n = x.l.length) :
    Gives Try.prog 53 #[.agg (hdS x a n c).toArray] W fun v W' => (∃ r, v = .bool r ∧ (r = true ↔ May x)) ∧ Below W.heap.size W W' := F53_fn (by
  unfold F53
  refine NewA.mk fun b1 W1 h1 hb1 hsz1 hbl1 => ?_
  have hm := may_iff hw
  have bad1 : ∀ W', Below W.heap.size W W' → ¬ May x → (∃ r, Value.bool false = .bool r ∧ (r = true ↔ May x)) ∧ Below W.heap.size W W' := fun W' hb h => ⟨⟨false, rfl, ⟨fun h => (by cases h), fun hh => absurd hh h⟩⟩, hb⟩
  refine Ld1.mk h1 (u := .int .i64 x.k) rfl ⟨_, rfl, ?_⟩
  refine Join.use fun J hJ => ?_
  have hJt : ¬ May x → J true W1 := fun h => by
    rw [hJ]
    refine Join.use fun J1 hJ1 => If.pos rfl ?_
    rw [hJ1]
    refine Join.use fun J2 hJ2 => If.pos rfl ?_
    rw [hJ2]
    exact If.pos rfl (bad1 W1 hbl1 h)
  refine If.dec (fun h => hJt fun hh => by have := hh.k1; omega) fun hk1 => ?_
  refine Ld1.mk h1 (u := .int .i64 x.k) rfl ⟨_, rfl, ?_⟩
  dsimp only
  by_cases hk2 : x.k > 200
  · have hd : decide (x.k > 200) = true := decide_eq_true hk2
    rw [hd]; exact hJt fun hh => by have := hh.k2; omega
  have hd : decide (x.k > 200) = false := decide_eq_false hk2
  rw [hd, hJ]
  refine Join.use fun J1 hJ1 => If.neg rfl ?_
  refine Ld1.ad h1 (u := .int .u64 x.n) rfl ⟨_, rfl, ?_⟩
  have hJ1t : ¬ May x → J1 true W1 := fun h => by
    rw [hJ1]
    refine Join.use fun J2 hJ2 => If.pos rfl ?_
    rw [hJ2]
    exact If.pos rfl (bad1 W1 hbl1 h)
  dsimp only
  by_cases hn1 : x.n > 4611686018427387904
  · have hd : decide (x.n > 4611686018427387904) = true := decide_eq_true hn1
    rw [hd]; exact hJ1t fun hh => by have := hh.n1; omega
  have hd2 : decide (x.n > 4611686018427387904) = false := decide_eq_false hn1
  rw [hd2, hJ1]
  refine Join.use fun J2 hJ2 => If.neg rfl ?_
  refine Ld1.ad h1 (u := .slice a n c) rfl ⟨_, _, _, rfl, ?_⟩
  refine Ld1.mk h1 (u := .int .i64 x.k) rfl ⟨_, rfl, ?_⟩
  rw [hJ2]
  refine If.dec (fun h => bad1 W1 hbl1 fun hh => by have := hh.len; omega) fun hlen => ?_
  have hl200 : x.l.length ≤ 200 := by omega
  obtain ⟨n0, n1⟩ := hw.n
  obtain ⟨sl0, sl1⟩ := hw.sl
  refine Ld1.mk h1 (u := .int .i64 x.k) rfl ⟨_, rfl, ?_⟩
  refine Ld1.ad h1 (u := .int .u64 x.sl) rfl ⟨_, rfl, ?_⟩
  rw [wrap_u64 (x := x.k) (by omega) (by omega)]
  refine CallK.mk (Wd.mul_gives' (a := x.k) (b := x.sl) ⟨by omega, by omega⟩ ⟨sl0, sl1⟩) ?_
  rintro _ W2 ⟨⟨mh, ml, rfl, m1, m2, m3⟩, hb2⟩
  have hks0 : 0 ≤ x.k * x.sl := Int.mul_nonneg (by omega) sl0
  have hks : x.k * x.sl ≤ 200 * 18446744073709551616 := Int.mul_le_mul (by omega) (by omega) sl0 (by decide)
  have T0 : Two (x.k * x.sl) #[.int .u64 mh, .int .u64 ml] := ⟨mh, ml, rfl, m1, m2, m3⟩
  refine NewA.mk fun b3 W3 h3 hb3 hsz3 hbl3 => ?_
  refine Two.st Two.zero h3 T0 fun W4 h34 hsz4 hf4 => ?_
  refine ⟨trivial, ?_⟩
  refine NewA.mk fun b4 W5 h4 hb4 hsz5 hbl5 => ?_
  refine Two.st Two.zero h4 Two.zero fun W6 h46 hsz6 hf6 => ?_
  refine ⟨trivial, ?_⟩
  refine NewA.mk fun b5 W7 h5 hb5 hsz7 hbl7 => ?_
  refine Two.st Two.zero h5 Two.zero fun W8 h58 hsz8 hf8 => ?_
  have z1 := hbl1.size; have z2 := hb2.size; have z3 := hbl3.size; have z5 := hbl5.size; have z7 := hbl7.size
  have b1lt := heap_lt h1
  have h18 := hf8.at (by omega) (belowAt hbl7 (hf6.at (by omega) (belowAt hbl5 (hf4.at (by omega) (belowAt hbl3 (belowAt hb2 h1))))))
  have h38 := hf8.at (by omega) (belowAt hbl7 (hf6.at (by omega) (belowAt hbl5 h34)))
  have h48 := hf8.at (by omega) (belowAt hbl7 h46)
  have f08 : Fr (fun q => W.heap.size ≤ q) W W8 := ((((((frOf (S := fun q => W.heap.size ≤ q) (hbl1.trans (hb2.mono z1))).trans (frOf hbl3)).trans' hf4 fun q hq _ => by omega).trans (frOf hbl5)).trans' hf6 fun q hq _ => by omega).trans (frOf hbl7)).trans' hf8 fun q hq _ => by omega
  refine Lp.enc (fun s : Bool × Int => [.bool s.1, .int .i64 s.2]) (fun s t hst => by simp at hst; exact Prod.ext hst.1 hst.2)
    (fun s W' => ∃ (i : Nat) (c3 c4 c5 : Array Value), s.2 = (i : Int) ∧ i ≤ x.l.length ∧ Asc (x.l.take i) ∧ (∀ d ∈ x.l.take i, x.sl ≤ d.2.1 ∧ d.2.2 ≤ x.sl ∧ d.2.2 < d.2.1) ∧
      Two (sumC (fun d => d.2.1 - x.sl) (x.l.take i) + x.k * x.sl) c3 ∧ Two (sumC (fun d => d.2.1 - d.2.2) (x.l.take i)) c4 ∧ Two (sumC (fun d => d.2.1) (x.l.take i)) c5 ∧
      W'.heap[b1]? = some (.cells (hdS x a n c).toArray 52 (0, 0)) ∧ W'.heap[b3]? = some (.cells c3 135 (0, 0)) ∧ W'.heap[b4]? = some (.cells c4 135 (0, 0)) ∧ W'.heap[b5]? = some (.cells c5 135 (0, 0)) ∧ Fr (fun q => W.heap.size ≤ q) W W' ∧ W8.heap.size ≤ W'.heap.size)
    (fun s _ => (300 - s.2).toNat) (false, 0) rfl ⟨0, _, _, _, rfl, Nat.zero_le _, List.Pairwise.nil, fun d hd => by simp at hd, by simpa [sumC] using T0, Two.zero, Two.zero, h18, h38, h48, h58, f08, Nat.le_refl _⟩ ?_
  rintro ⟨bb, s⟩ W9 kk ⟨i, c3, c4, c5, hi, hil, hasc, hec, t3, t4, t5, q1, q3, q4, q5, qf, qz⟩ hkk
  simp only at hi
  subst hi
  have k1 := heap_lt q1; have k3 := heap_lt q3; have k4 := heap_lt q4; have k5 := heap_lt q5; have zf := qf.size
  refine AsB.mk (AsI.mk ?_)
  refine Ld1.ad q1 (u := .slice a n c) rfl ⟨_, _, _, rfl, If.dec (fun hlt => ?_) fun hge => ?_⟩
  · have hlt' : (i : Int) < (n : Int) := hlt
    have hx : x.l[i]? = some (x.l[i]'(by omega)) := List.getElem?_eq_getElem (by omega)
    generalize (x.l[i]'(by omega)) = d at hx
    have hdm := List.mem_of_getElem? hx
    obtain ⟨⟨c0, c1⟩, e0, e1⟩ := hw.l d hdm
    refine Ld1.ad q1 (u := .slice a n c) rfl ⟨_, _, _, rfl, ?_⟩
    refine (hr.bel qf.bel).get encN_len hn rfl hx ?_
    refine NewA.mk fun b7 W10 h7 hb7 hsz10 hbl10 => ?_
    refine StV.to h7 (v := .agg (encN d).toArray) rfl (by decide) rfl (cs := (encN d).toArray) rfl fun W11 h711 hsz11 hf11 => ?_
    intro W12 hb12
    have f912 : Fr (fun q => q = b7) W9 W12 := ((frOf hbl10).trans hf11).trans (frOf hb12)
    have z12 := hb12.size; have z11 := hf11.size; have z10 := hbl10.size
    have q112 := f912.at (by omega) q1
    have q312 := f912.at (by omega) q3
    have q412 := f912.at (by omega) q4
    have q512 := f912.at (by omega) q5
    have h712 := belowAt hb12 h711
    have qf12 : Fr (fun q => W.heap.size ≤ q) W W12 := qf.trans' f912 fun q hq _ => by omega
    refine Join.use fun J3 hJ3 => ?_
    -- what follows the comparison with the one before
    have hJ3t : ∀ W', Below W12.heap.size W12 W' → ¬ May x → J3 true W' := fun W' hb h => by
      rw [hJ3]
      refine Join.use fun J4 hJ4 => If.pos rfl ?_
      rw [hJ4]
      refine Join.use fun J5 hJ5 => If.pos rfl ?_
      rw [hJ5]
      refine Join.use fun J6 hJ6 => If.pos rfl ?_
      rw [hJ6]
      exact If.pos rfl (bad1 W' (qf12.trans (frOf hb)).bel h)
    have hJ3f : ∀ W', Below W12.heap.size W12 W' → Asc (x.l.take (i + 1)) → J3 false W' := fun W13 hb13 hasc' => by
      rw [hJ3]
      have q113 := belowAt hb13 q112
      have h713 := belowAt hb13 h712
      have bad : ¬ May x → (∃ r, Value.bool false = .bool r ∧ (r = true ↔ May x)) ∧ Below W.heap.size W W13 := bad1 W13 (qf12.trans (frOf hb13)).bel
      refine Join.use fun J4 hJ4 => If.neg rfl ?_
      refine Ld1.ad h713 (u := .int .u64 d.2.1) rfl ⟨_, rfl, ?_⟩
      refine Ld1.ad q113 (u := .int .u64 x.sl) rfl ⟨_, rfl, ?_⟩
      dsimp only
      by_cases g1 : d.2.1 < x.sl
      · rw [decide_eq_true g1, hJ4]
        refine Join.use fun J5 hJ5 => If.pos rfl ?_
        rw [hJ5]
        refine Join.use fun J6 hJ6 => If.pos rfl ?_
        rw [hJ6]
        exact If.pos rfl (bad fun hh => by have := hh.each d hdm; omega)
      rw [decide_eq_false g1, hJ4]
      refine Join.use fun J5 hJ5 => If.neg rfl ?_
      refine Ld1.ad h713 (u := .int .u64 d.2.2) rfl ⟨_, rfl, ?_⟩
      refine Ld1.ad q113 (u := .int .u64 x.sl) rfl ⟨_, rfl, ?_⟩
      dsimp only
      by_cases g2 : d.2.2 > x.sl
      · rw [decide_eq_true g2, hJ5]
        refine Join.use fun J6 hJ6 => If.pos rfl ?_
        rw [hJ6]
        exact If.pos rfl (bad fun hh => by have := hh.each d hdm; omega)
      rw [decide_eq_false g2, hJ5]
      refine Join.use fun J6 hJ6 => If.neg rfl ?_
      refine Ld1.ad h713 (u := .int .u64 d.2.2) rfl ⟨_, rfl, ?_⟩
      refine Ld1.ad h713 (u := .int .u64 d.2.1) rfl ⟨_, rfl, ?_⟩
      dsimp only
      by_cases g3 : d.2.2 ≥ d.2.1
      · rw [decide_eq_true g3, hJ6]
        exact If.pos rfl (bad fun hh => by have := hh.each d hdm; omega)
      rw [decide_eq_false g3, hJ6]
      refine If.neg rfl ?_
      have hit : (x.l.take i).length ≤ 200 := by rw [List.length_take]; omega
      have hwt : ∀ y ∈ x.l.take i, (0 ≤ y.2.1 ∧ y.2.1 < 18446744073709551616) ∧ 0 ≤ y.2.2 ∧ y.2.2 < 18446744073709551616 := fun y hy => hw.l y (List.mem_of_mem_take hy)
      have u3 := sumC_ub (f := fun d => d.2.1 - x.sl) (l := x.l.take i) fun y hy => by have := hwt y hy; omega
      have u4 := sumC_ub (f := fun d => d.2.1 - d.2.2) (l := x.l.take i) fun y hy => by have := hwt y hy; omega
      have u5 := sumC_ub (f := fun d => d.2.1) (l := x.l.take i) fun y hy => (hwt y hy).1.2
      have s3 := sumC_take (f := fun d => d.2.1 - x.sl) hx
      have s4 := sumC_take (f := fun d => d.2.1 - d.2.2) hx
      have s5 := sumC_take (f := fun d => d.2.1) hx
      refine t3.at (belowAt hb13 q312) ?_
      refine Ld1.ad h713 (u := .int .u64 d.2.1) rfl ⟨_, rfl, ?_⟩
      refine Ld1.ad q113 (u := .int .u64 x.sl) rfl ⟨_, rfl, ?_⟩
      dsimp only
      rw [wrap_u64 (x := d.2.1 - x.sl) (by omega) (by omega)]
      refine ⟨⟨rfl, by decide, trivial⟩, ?_⟩
      refine CallK.mk (t3.add (w := d.2.1 - x.sl) ⟨by omega, by omega⟩ (by omega)) ?_
      rintro _ W14 ⟨⟨d3, e3, rfl, t3'⟩, hb14⟩
      refine AsT2.mk (AsB.mk ?_)
      have z13 := hb13.size; have z14 := hb14.size
      refine Two.st t3 (belowAt hb14 (belowAt hb13 q312)) t3' fun W15 q315 hsz15 hf15 => ?_
      have q115 := hf15.at (by omega) (belowAt hb14 q113)
      have h715 := hf15.at (by omega) (belowAt hb14 h713)
      have q415 := hf15.at (by omega) (belowAt hb14 (belowAt hb13 q412))
      have q515 := hf15.at (by omega) (belowAt hb14 (belowAt hb13 q512))
      refine t4.at q415 ?_
      refine Ld1.ad h715 (u := .int .u64 d.2.1) rfl ⟨_, rfl, ?_⟩
      refine Ld1.ad h715 (u := .int .u64 d.2.2) rfl ⟨_, rfl, ?_⟩
      dsimp only
      rw [wrap_u64 (x := d.2.1 - d.2.2) (by omega) (by omega)]
      refine ⟨⟨rfl, by decide, trivial⟩, ?_⟩
      refine CallK.mk (t4.add (w := d.2.1 - d.2.2) ⟨by omega, by omega⟩ (by omega)) ?_
      rintro _ W16 ⟨⟨d4, e4, rfl, t4'⟩, hb16⟩
      refine AsT2.mk (AsB.mk ?_)
      refine Two.st t4 (belowAt hb16 q415) t4' fun W17 q417 hsz17 hf17 => ?_
      have z15 := hf15.size; have z16 := hb16.size
      have q117 := hf17.at (by omega) (belowAt hb16 q115)
      have h717 := hf17.at (by omega) (belowAt hb16 h715)
      have q317 := hf17.at (by omega) (belowAt hb16 q315)
      have q517 := hf17.at (by omega) (belowAt hb16 q515)
      refine t5.at q517 ?_
      refine Ld1.ad h717 (u := .int .u64 d.2.1) rfl ⟨_, rfl, ?_⟩
      refine ⟨⟨rfl, by decide, trivial⟩, ?_⟩
      refine CallK.mk (t5.add (w := d.2.1) ⟨c0, c1⟩ (by omega)) ?_
      rintro _ W18 ⟨⟨d5, e5, rfl, t5'⟩, hb18⟩
      refine AsT2.mk (AsB.mk ?_)
      refine Two.st t5 (belowAt hb18 q517) t5' fun W19 q519 hsz19 hf19 => ?_
      have z17 := hf17.size; have z18 := hb18.size
      show kk [.bool bb, .int .i64 (IntKind.i64.wrap ((i : Int) + 1))] W19
      rw [nsucc (by omega)]
      refine hkk (bb, ((i + 1 : Nat) : Int)) W19 ⟨i + 1, d3, d4, d5, rfl, by omega, hasc', fun y hy => ?_, by rw [s3, show sumC (fun d => d.2.1 - x.sl) (x.l.take i) + (d.2.1 - x.sl) + x.k * x.sl = sumC (fun d => d.2.1 - x.sl) (x.l.take i) + x.k * x.sl + (d.2.1 - x.sl) by omega]; exact t3', by rw [s4]; exact t4', by rw [s5]; exact t5',
        hf19.at (by omega) (belowAt hb18 q117), hf19.at (by omega) (belowAt hb18 q317), hf19.at (by omega) (belowAt hb18 q417), q519, (((((qf12.trans (frOf hb13)).trans (frOf hb14)).trans' hf15 fun q hq _ => by omega).trans (frOf hb16)).trans' hf17 fun q hq _ => by omega).trans (frOf hb18) |>.trans' hf19 fun q hq _ => by omega, by omega⟩ (by simp only; omega)
      rw [← (take_step hx).2] at hy
      rcases List.mem_append.1 hy with hy | hy
      · exact hec y hy
      · rw [List.mem_singleton] at hy; subst hy; omega
    refine If.dec (fun hpos => ?_) fun hzero => ?_
    · have hpos' : (i : Int) > 0 := hpos
      obtain ⟨m, rfl⟩ : ∃ m, i = m + 1 := ⟨i - 1, by omega⟩
      have hy : x.l[m]? = some (x.l[m]'(by omega)) := List.getElem?_eq_getElem (by omega)
      generalize (x.l[m]'(by omega)) = y at hy
      refine Ld1.ad q112 (u := .slice a n c) rfl ⟨_, _, _, rfl, ?_⟩
      obtain ⟨p, hp, hrow⟩ := (hr.bel qf12.bel).row encN_len hy
      subst hp
      have ew : IntKind.i64.wrap (((m + 1 : Nat) : Int) - 1) = (m : Int) := by rw [wrap_i64] <;> omega
      refine IdxS.mk (j := m) ew (by omega) ⟨encP y.1, rfl, row_take hrow 12, ?_⟩
      refine LdNC.mk h712 (cs := encP d.1) rfl rfl ?_
      refine CallK.mk (refCmp_gives y.1 d.1 W12) ?_
      rintro _ W13 ⟨rfl, hb13⟩
      refine ⟨_, rfl, ?_⟩
      dsimp only
      by_cases g : cmpP y.1 d.1 ≥ 0
      · rw [decide_eq_true g]
        refine hJ3t W13 hb13 fun hh => ?_
        obtain ⟨h1', e1'⟩ := List.getElem?_eq_some_iff.1 hy
        obtain ⟨h2', e2'⟩ := List.getElem?_eq_some_iff.1 hx
        have := List.pairwise_iff_getElem.1 hh.asc m (m + 1) h1' h2' (by omega)
        rw [e1', e2'] at this
        omega
      · rw [decide_eq_false g]
        exact hJ3f W13 hb13 (asc_step hasc hy hx (by omega))
    · have hzero' : ¬ (i : Int) > 0 := hzero
      have : i = 0 := by omega
      subst this
      refine hJ3f W12 (Below.refl _ _) ?_
      rw [← (take_step hx).2]
      exact List.pairwise_singleton _ _
  · have hge' : ¬ (i : Int) < (n : Int) := hge
    rw [List.take_of_length_le (by omega)] at hasc hec t3 t4 t5
    refine t3.at q3 ?_
    refine Ld1.ad q1 (u := .int .u64 x.n) rfl ⟨_, rfl, ?_⟩
    refine CallK.mk (t3.most n1) ?_
    rintro _ W10 ⟨rfl, hb10⟩
    refine ⟨_, rfl, Join.use fun J7 hJ7 => ?_⟩
    have out : ∀ W', Below W9.heap.size W9 W' → ¬ May x → J7 false W' := fun W' hb h => by
      rw [hJ7]
      refine Join.use fun J8 hJ8 => If.neg rfl ?_
      rw [hJ8]
      exact bad1 W' (qf.trans (frOf hb)).bel h
    refine If.dec (fun hover => ?_) fun hover => out W10 hb10 fun hh => hover hh.over
    refine t4.at (belowAt hb10 q4) ?_
    refine Ld1.ad (belowAt hb10 q1) (u := .int .u64 x.n) rfl ⟨_, rfl, ?_⟩
    refine CallK.mk (t4.most n1) ?_
    rintro _ W11 ⟨rfl, hb11⟩
    have B11 := hb10.trans (hb11.mono hb10.size)
    refine ⟨_, rfl, ?_⟩
    dsimp only
    by_cases hlow : sumC (fun d => d.2.1 - d.2.2) x.l ≤ x.n
    · rw [decide_eq_true hlow, hJ7]
      refine Join.use fun J8 hJ8 => If.pos rfl ?_
      refine Ld1.ad (belowAt B11 q1) (u := .int .u64 x.sl) rfl ⟨_, rfl, Join.use fun J9 hJ9 => ?_⟩
      have hsn := sumC_nonneg (f := fun d => d.2.1 - x.sl) (l := x.l) fun y hy => by have := (hec y hy).1; omega
      have fin : ∀ r : Bool, (r = true ↔ (x.sl = 0 → sumC (fun d => d.2.1) x.l = x.n)) → J9 r W11 := fun r hrr => by
        rw [hJ9, hJ8]
        refine ⟨⟨r, rfl, ?_⟩, (qf.trans (frOf B11)).bel⟩
        rw [hrr, hm]
        exact ⟨fun h => ⟨by omega, by omega, by omega, by omega, hasc, by omega, hec, hover, hlow, h⟩, fun h => h.2.2.2.2.2.all⟩
      refine If.dec (fun hp => fin true ⟨fun _ h0 => absurd hp (by omega), fun _ => rfl⟩) fun hp => ?_
      have hp' : ¬ x.sl > 0 := hp
      refine t5.at (belowAt B11 q5) ?_
      refine Ld1.ad (belowAt B11 q1) (u := .int .u64 x.n) rfl ⟨_, rfl, ?_⟩
      refine ⟨⟨rfl, by decide, trivial⟩, ?_⟩
      obtain ⟨th, tl, rfl, r1, r2, r3⟩ := t5
      refine eq135.eql (cs := [.int .u64 th, .int .u64 tl]) (ds := [.int .u64 0, .int .u64 x.n]) ⟨⟨_, rfl, u64_wf r1⟩, ⟨_, rfl, u64_wf r2⟩, trivial⟩ ⟨⟨_, rfl, u64_wf (by decide)⟩, ⟨_, rfl, u64_wf ⟨n0, n1⟩⟩, trivial⟩ fun r hrr => ⟨_, rfl, fin r ?_⟩
      rw [hrr]
      simp only [List.cons.injEq, Value.int.injEq, true_and, and_true]
      constructor
      · rintro ⟨rfl, rfl⟩ _; omega
      · intro h; have := h (by omega); omega
    · rw [decide_eq_false hlow]
      exact out W11 B11 fun hh => hlow hh.low)
end Go.Proofs.Ytcagnabglppenaa.Sv
