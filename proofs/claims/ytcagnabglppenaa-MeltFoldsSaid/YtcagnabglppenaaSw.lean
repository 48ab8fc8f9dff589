/- Summaries: fixed calls; a run of insertions; what arguments read as. -/
import Derived.Test.YtcagnabglppenaaSv
import Derived.Test.YtcagnabglppenaaPvl
namespace Go.Proofs.Ytcagnabglppenaa.Sv
open Go Go.RowKit Go.Vc Go.Proofs.Ytcagnabglppenaa.Fs Go.Proofs.Ytcagnabglppenaa.Px Go.Proofs.Ytcagnabglppenaa.Hq

theorem Sv.eq {x y : Sv} (h1 : x.k = y.k) (h2 : x.n = y.n) (h3 : x.sl = y.sl) (h4 : x.l = y.l) : x = y := by
  cases x; cases y; simp only at h1 h2 h3 h4; subst h1; subst h2; subst h3; subst h4; rfl
abbrev lfN : List Lf := lfP ++ [.int .u64, .int .u64]
theorem u64_wf {n : Int} (h : 0 ≤ n ∧ n < 18446744073709551616) : (Lit.int .u64 n).wf = true := by
  have e1 : IntKind.u64.min = 0 := by kernel_rfl
  have e2 : IntKind.u64.max = 18446744073709551615 := by kernel_rfl
  show (decide (IntKind.u64.min ≤ n) && decide (n ≤ IntKind.u64.max)) = true
  rw [e1, e2]
  simp only [Bool.and_eq_true, decide_eq_true_eq]
  omega
def WfN (c : Cnt) : Prop := (0 ≤ c.2.1 ∧ c.2.1 < 18446744073709551616) ∧ 0 ≤ c.2.2 ∧ c.2.2 < 18446744073709551616
theorem encN_typed {c : Cnt} (h : WfN c) : Typed lfN (encN c) := Typed.append (encP_typed c.1) ⟨⟨_, rfl, u64_wf h.1⟩, ⟨_, rfl, u64_wf h.2⟩, trivial⟩
theorem eq86 : EqTy Try.prog 86 lfN := ⟨by kernel_rfl, by kernel_rfl, by kernel_rfl, by kernel_rfl, by kernel_rfl⟩
theorem encN_inj {c d : Cnt} (h : encN c = encN d) : c = d := by
  unfold encN at h
  have h1 := List.append_inj h (by rw [encP_len, encP_len])
  have h2 := encP_inj h1.1
  have h3 := h1.2
  simp only [List.cons.injEq, Value.int.injEq, true_and, and_true] at h3
  exact Prod.ext h2 (Prod.ext h3.1 h3.2)
theorem same_gives {W : World} {x y : Sv} {a a' : Option Addr} {n c n' c' : Nat} (hx : ∀ c ∈ x.l, WfN c) (hy : ∀ c ∈ y.l, WfN c) (hr : RdL W 14 encN a x.l) (hn : n = x.l.length) (hr' : RdL W 14 encN a' y.l) (hn' : n' = y.l.length) (hlen : x.l.length < 1099511627776) :
    Gives Try.prog 39 #[.agg (hdS x a n c).toArray, .agg (hdS y a' n' c').toArray] W fun v W' => (∃ r, v = .bool r ∧ (r = true ↔ x = y)) ∧ Below W.heap.size W W' := F39_fn (by
  unfold F39
  refine NewA.mk fun b2 W1 h2 hb2 hsz1 hbl1 => NewA.mk fun b3 W2 h3 hb3 hsz2 hbl2 => ?_
  have hB2 : Below W.heap.size W W2 := hbl1.trans (hbl2.mono hbl1.size)
  have h22 := belowAt hbl2 h2
  have bad : ∀ W', Below W.heap.size W W' → x ≠ y → (∃ r, Value.bool false = .bool r ∧ (r = true ↔ x = y)) ∧ Below W.heap.size W W' := fun W' hb h => ⟨⟨false, rfl, ⟨fun h => (by cases h), fun hh => absurd hh h⟩⟩, hb⟩
  refine Ld1.mk h22 (u := .int .i64 x.k) rfl ⟨_, rfl, ?_⟩
  refine Ld1.mk h3 (u := .int .i64 y.k) rfl ⟨_, rfl, ?_⟩
  refine Join.use fun J hJ => ?_
  have hJt : x ≠ y → J true W2 := fun h => by
    rw [hJ]
    refine Join.use fun J1 hJ1 => If.pos rfl ?_
    rw [hJ1]
    refine Join.use fun J2 hJ2 => If.pos rfl ?_
    rw [hJ2]
    exact If.pos rfl (bad W2 hB2 h)
  refine If.bne (fun h => hJt fun e => h (by rw [e])) fun hk => ?_
  refine Ld1.ad h22 (u := .int .u64 x.n) rfl ⟨_, rfl, ?_⟩
  refine Ld1.ad h3 (u := .int .u64 y.n) rfl ⟨_, rfl, ?_⟩
  dsimp only
  by_cases hnn : ¬ x.n = y.n
  · have : (x.n != y.n) = true := by simpa using hnn
    rw [this]; exact hJt fun e => hnn (by rw [e])
  have hnn := Classical.not_not.1 hnn
  have e1 : (x.n != y.n) = false := by simpa using hnn
  rw [e1, hJ]
  refine Join.use fun J1 hJ1 => If.neg rfl ?_
  have hJ1t : x ≠ y → J1 true W2 := fun h => by
    rw [hJ1]
    refine Join.use fun J2 hJ2 => If.pos rfl ?_
    rw [hJ2]
    exact If.pos rfl (bad W2 hB2 h)
  refine Ld1.ad h22 (u := .int .u64 x.sl) rfl ⟨_, rfl, ?_⟩
  refine Ld1.ad h3 (u := .int .u64 y.sl) rfl ⟨_, rfl, ?_⟩
  dsimp only
  by_cases hss : ¬ x.sl = y.sl
  · have : (x.sl != y.sl) = true := by simpa using hss
    rw [this]; exact hJ1t fun e => hss (by rw [e])
  have hss := Classical.not_not.1 hss
  have e2 : (x.sl != y.sl) = false := by simpa using hss
  rw [e2, hJ1]
  refine Join.use fun J2 hJ2 => If.neg rfl ?_
  refine Ld1.ad h22 (u := .slice a n c) rfl ⟨_, _, _, rfl, ?_⟩
  refine Ld1.ad h3 (u := .slice a' n' c') rfl ⟨_, _, _, rfl, ?_⟩
  rw [hJ2]
  refine If.bne (fun h => bad W2 hB2 fun e => h (by rw [hn, hn', e])) fun hll => ?_
  have hll' : x.l.length = y.l.length := by omega
  refine Lp.enc (fun s : Bool × Int => [.bool s.1, .int .i64 s.2]) (fun s t hst => by simp at hst; exact Prod.ext hst.1 hst.2)
    (fun s W' => ∃ j : Nat, s.2 = (j : Int) ∧ j ≤ x.l.length ∧ x.l.take j = y.l.take j ∧ Below W2.heap.size W2 W') (fun s _ => ((x.l.length : Int) + 1 - s.2).toNat) (false, 0) rfl ⟨0, rfl, Nat.zero_le _, rfl, Below.refl _ _⟩ ?_
  rintro ⟨bb, i⟩ W3 k ⟨j, hj, hjl, htk, hb3'⟩ hk'
  simp only at hj
  subst hj
  have hB3 : Below W.heap.size W W3 := hB2.trans (hb3'.mono hB2.size)
  have h23 := belowAt hb3' h22
  have h33 := belowAt hb3' h3
  refine AsB.mk (AsI.mk ?_)
  refine Ld1.ad h23 (u := .slice a n c) rfl ⟨_, _, _, rfl, ?_⟩
  refine If.dec (fun hlt => ?_) fun hge => ?_
  · have hlt' : (j : Int) < (n : Int) := hlt
    have h1 : x.l[j]? = some (x.l[j]'(by omega)) := List.getElem?_eq_getElem (by omega)
    have h2' : y.l[j]? = some (y.l[j]'(by omega)) := List.getElem?_eq_getElem (by omega)
    generalize (x.l[j]'(by omega)) = d at h1
    generalize (y.l[j]'(by omega)) = e at h2'
    refine Ld1.ad h23 (u := .slice a n c) rfl ⟨_, _, _, rfl, ?_⟩
    refine (hr.bel hB3).get encN_len hn rfl h1 ?_
    refine Ld1.ad h33 (u := .slice a' n' c') rfl ⟨_, _, _, rfl, ?_⟩
    intro W4 hb4
    have hB4 : Below W.heap.size W W4 := hB3.trans (hb4.mono hB3.size)
    refine (hr'.bel hB4).get encN_len hn' rfl h2' ?_
    refine eq86.neq (encN_typed (hx d (List.mem_of_getElem? h1))) (encN_typed (hy e (List.mem_of_getElem? h2'))) fun r hr => ⟨_, rfl, ?_⟩
    refine If.split (fun h => ?_) fun h => ?_
    · refine bad W4 hB4 fun hxy => ?_
      have : r = false := by simpa using h
      rw [hxy, h2'] at h1
      have hed := Option.some.inj h1
      have := hr.2 (by rw [hed])
      simp_all
    · have hrt : r = true := by simpa using h
      have hde := encN_inj (hr.1 hrt)
      show k [.bool bb, .int .i64 (IntKind.i64.wrap ((j : Int) + 1))] W4
      rw [show IntKind.i64.wrap ((j : Int) + 1) = ((j + 1 : Nat) : Int) by rw [wrap_i64] <;> omega]
      refine hk' (bb, ((j + 1 : Nat) : Int)) W4 ⟨j + 1, rfl, by omega, ?_, hb3'.trans (hb4.mono hb3'.size)⟩ (by simp only; omega)
      rw [← (take_step h1).2, ← (take_step h2').2, htk, hde]
  · have hge' : ¬ (j : Int) < (n : Int) := hge
    refine ⟨⟨true, rfl, ⟨fun _ => ?_, fun _ => rfl⟩⟩, hB3⟩
    rw [List.take_of_length_le (by omega), List.take_of_length_le (by omega)] at htk
    exact Sv.eq hk hnn hss htk)
/-! ### One that was laid within a call -/
def AL (W0 W : World) (b : Nat) (x : Sv) : Prop := ∃ S, SumR W b S x ∧ (∀ q, S q → W0.heap.size ≤ q) ∧ Fr (fun q => W0.heap.size ≤ q) W0 W
theorem AL.below {W0 W W' : World} {b : Nat} {x : Sv} (h : AL W0 W b x) (hb : Below W.heap.size W W') : AL W0 W' b x := by
  obtain ⟨S, h1, h2, h3⟩ := h
  exact ⟨S, h1.below hb, h2, h3.trans (frOf hb)⟩
theorem AL.ins {W0 W : World} {b : Nat} {x y : Sv} {p : Pfx} {w e : Int} (h : AL W0 W b x) (hM : May x) (hw : 0 ≤ w ∧ w < 18446744073709551616) (hi : Sv.ins x p w = (y, e)) :
    Gives Try.prog 49 #[ptr b, kv p, .int .u64 w] W fun v W' => v = .int .i64 e ∧ AL W0 W' b y := by
  obtain ⟨S, h1, h2, h3⟩ := h
  have g := insert_gives h1 hM p w hw
  rw [hi] at g
  refine g.mono ?_
  rintro v W' ⟨rfl, hR, hf⟩
  have := h3.size
  exact ⟨rfl, _, hR, fun q hq => hq.elim (h2 q) fun h => by omega, h3.trans' hf fun q hq _ => h2 q hq⟩
theorem AL.new {W0 W : World} (h0 : Below W0.heap.size W0 W) {k : Int} (h1 : 1 ≤ k) (h2 : k ≤ 200) : Gives Try.prog 46 #[.int .i64 k] W fun v W' => ∃ b, v = ptr b ∧ AL W0 W' b ⟨k, 0, 0, []⟩ ∧ W.heap.size ≤ W'.heap.size := by
  refine (new_gives h1 h2).mono ?_
  rintro v W' ⟨b, rfl, hR, hb⟩
  have := h0.size
  exact ⟨b, rfl, ⟨_, hR, fun q hq => hq.elim (fun h => h.elim) fun h => by omega, (frOf h0).trans (frOf hb)⟩, hb.size⟩
/-! ### Fixed calls -/
def zK : KeyC := ⟨0, 0, 0, 0, ByteArray.empty, ⟨⟨0, rfl, rfl⟩, ⟨0, rfl, rfl⟩, ⟨0, rfl, rfl⟩, ⟨0, rfl, rfl⟩, ⟨ByteArray.empty, rfl, by decide⟩, trivial⟩⟩
def mkP (n : Int) (h : (Lit.int .i64 n).wf = true) : Pfx := ⟨n, 0, zK, zK, ⟨⟨n, rfl, h⟩, ⟨0, rfl, rfl⟩, trivial⟩⟩
theorem at_gives (n : Int) (h : (Lit.int .i64 n).wf = true) {W : World} : Gives Try.prog 80 #[.int .i64 n] W fun v W' => v = kv (mkP n h) ∧ Below W.heap.size W W' := F80_fn (by
  unfold F80
  refine NewA.mk fun b W1 h1 hb1 hsz1 hbl1 => ?_
  refine ⟨⟨rfl, by decide, rfl, by decide, trivial⟩, ⟨rfl, by decide, trivial⟩, ?_⟩
  refine StV.to h1 (v := kv (mkP n h)) rfl (by decide) rfl (cs := (encP (mkP n h)).toArray) rfl fun W2 h2 hsz2 hf2 => ?_
  refine LdNC.mk h2 (cs := encP (mkP n h)) rfl rfl ⟨rfl, ?_⟩
  exact ((frOf (S := fun q => W.heap.size ≤ q) hbl1).trans' hf2 fun q hq _ => by omega).bel)
def p1 : Pfx := mkP 1 rfl
def p2 : Pfx := mkP 2 rfl
def p3 : Pfx := mkP 3 rfl
def x0 : Sv := ⟨2, 0, 0, []⟩
def x1 : Sv := ⟨2, 5, 0, [(p1, 5, 0)]⟩
def x2 : Sv := ⟨2, 8, 0, [(p1, 5, 0), (p2, 3, 0)]⟩
def x3 : Sv := ⟨2, 12, 3, [(p1, 5, 0), (p3, 7, 3)]⟩
theorem i1 : ins x0 p1 5 = (x1, 0) := by kernel_rfl
theorem i2 : ins x1 p2 3 = (x2, 0) := by kernel_rfl
theorem i3 : ins x2 p3 4 = (x3, 0) := by kernel_rfl
theorem i4 : ins x3 p3 4611686018427387904 = (x3, 13) := by kernel_rfl
theorem m0 : May x0 := may_new (by decide) (by decide)
theorem m1 : May x1 := by have := m0.ins (p := p1) (w := 5) (by decide) (ins_is m0 p1 5); rw [i1] at this; exact this
theorem m2 : May x2 := by have := m1.ins (p := p2) (w := 3) (by decide) (ins_is m1 p2 3); rw [i2] at this; exact this
theorem m3 : May x3 := by have := m2.ins (p := p3) (w := 4) (by decide) (ins_is m2 p3 4); rw [i3] at this; exact this
theorem wN3 : WfN (p3, 7, 3) := ⟨⟨by decide, by decide⟩, by decide, by decide⟩
theorem alive_gives {W : World} : Gives Try.prog 47 #[] W fun v W' => v = .bool true ∧ Below W.heap.size W W' := F47_fn (_u := ()) (by
  unfold F47
  refine CallK.mk (AL.new (W0 := W) (Below.refl _ _) (k := 2) (by decide) (by decide)) ?_
  rintro _ W1 ⟨b, rfl, hA1, _⟩
  refine ⟨_, rfl, ?_⟩
  obtain ⟨e66, h66⟩ := t66
  refine nil_ptr_eql h66 ⟨_, rfl, Join.use fun J hJ => If.neg rfl ?_⟩
  refine CallK.mk (at_gives 1 rfl) ?_
  rintro _ W2 ⟨rfl, hb2⟩
  refine CallK.mk ((hA1.below hb2).ins m0 (p := p1) (w := 5) (by omega) i1) ?_
  rintro _ W3 ⟨rfl, hA3⟩
  refine ⟨_, rfl, ?_⟩
  rw [hJ]
  refine Join.use fun J1 hJ1 => If.neg rfl ?_
  refine CallK.mk (at_gives 2 rfl) ?_
  rintro _ W4 ⟨rfl, hb4⟩
  refine CallK.mk ((hA3.below hb4).ins m1 (p := p2) (w := 3) (by omega) i2) ?_
  rintro _ W5 ⟨rfl, hA5⟩
  refine ⟨_, rfl, ?_⟩
  rw [hJ1]
  refine Join.use fun J2 hJ2 => If.neg rfl ?_
  refine CallK.mk (at_gives 3 rfl) ?_
  rintro _ W6 ⟨rfl, hb6⟩
  refine CallK.mk ((hA5.below hb6).ins m2 (p := p3) (w := 4) (by omega) i3) ?_
  rintro _ W7 ⟨rfl, hA7⟩
  refine ⟨_, rfl, ?_⟩
  rw [hJ2]
  refine Join.use fun J3 hJ3 => If.neg rfl ?_
  refine CallK.mk (at_gives 3 rfl) ?_
  rintro _ W8 ⟨rfl, hb8⟩
  refine CallK.mk ((hA7.below hb8).ins m3 (p := p3) (w := 4611686018427387904) (by omega) i4) ?_
  rintro _ W9 ⟨rfl, hA9⟩
  refine ⟨_, rfl, ?_⟩
  rw [hJ3]
  refine If.neg rfl ?_
  -- its state
  obtain ⟨S, hR9, hS9, f09⟩ := hA9
  refine CallK.mk (state_gives hR9 m3) ?_
  rintro _ W10 ⟨u, rfl, hsl, hown, hb10⟩
  have hR10 := hR9.below hb10
  obtain ⟨a, c, rfl⟩ := hsl.shape
  have f010 := f09.trans (frOf (S := fun q => W.heap.size ≤ q) hb10)
  have z9 := f09.size; have z10 := hb10.size
  refine NewA.mk fun b3 W11 h3 hb3 hsz11 hbl11 => ?_
  refine StV.to h3 (v := svV x3 (.slice a x3.l.length c)) rfl (by decide) rfl (cs := (hdS x3 a x3.l.length c).toArray) rfl fun W12 h312 hsz12 hf12 => ?_
  refine LdNC.mk h312 (cs := hdS x3 a x3.l.length c) rfl rfl ?_
  refine NewA.mk fun b4 W13 h4 hb4 hsz13 hbl13 => ?_
  refine StV.to h4 (v := .agg (hdS x3 a x3.l.length c).toArray) rfl (by decide) rfl (cs := (hdS x3 a x3.l.length c).toArray) rfl fun W14 h414 hsz14 hf14 => ?_
  refine StV.ad1 h414 (v := .int .u64 0) rfl (show 0 + 2 < 4 by decide) rfl fun W15 h415 hsz15 hf15 => ?_
  have f1015 : Fr (fun q => W10.heap.size ≤ q) W10 W15 := ((((frOf hbl11).trans' hf12 fun q hq _ => by omega).trans (frOf hbl13)).trans' hf14 fun q hq _ => by omega).trans' hf15 fun q hq _ => by omega
  have h315 := hf15.at (by have := heap_lt h312; omega) (hf14.at (by have := heap_lt h312; omega) (belowAt hbl13 h312))
  have hR15 := hR10.fr f1015 fun q hq => by have := hR10.2 q hq; omega
  have hsl15 : SlR W15 86 14 encN (.slice a x3.l.length c) x3.l := hsl.fr f1015 fun g hg => by have := hsl.lt hg; omega
  have f015 : Fr (fun q => W.heap.size ≤ q) W W15 := f010.trans' f1015 fun q hq _ => by omega
  refine LdNC.mk h315 (cs := hdS x3 a x3.l.length c) rfl rfl ?_
  refine CallK.mk (of_gives m3.wf hsl15.rd rfl) ?_
  rintro _ W16 ⟨⟨hn, _⟩ | ⟨_, bt, rfl, hRt⟩, hb16⟩
  · exact absurd m3 hn
  refine ⟨_, _, rfl, _, rfl, _, rfl, ?_⟩
  let y3 : Sv := { x3 with sl := 0 }
  have wy : Wf y3 := ⟨m3.wf.k, m3.wf.n, by constructor <;> decide, m3.wf.l⟩
  have ny : ¬ May y3 := fun h => by have := (h.each (p3, 7, 3) (by simp [y3, x3])).2.2.1; simp [y3] at this
  refine LdNC.mk (belowAt hb16 h415) (cs := hdS y3 a x3.l.length c) rfl rfl ?_
  refine CallK.mk ((of_gives (x := y3) wy (hsl15.bel hb16).rd rfl).mono fun _ _ h => (⟨h.1.symm, h.2⟩ : _ ∧ _)) ?_
  rintro _ W17 ⟨⟨hm, _⟩ | ⟨_, rfl⟩, hb17⟩
  · exact absurd hm ny
  refine ⟨_, _, rfl, _, rfl, _, rfl, ?_⟩
  have B17 : Below W15.heap.size W15 W17 := hb16.trans (hb17.mono hb16.size)
  have h317 := belowAt B17 h315
  have hR17 := hR15.below B17
  have hRt17 := hRt.below hb17
  refine Ld1.ad h317 (u := .slice a x3.l.length c) rfl ⟨_, _, _, rfl, ?_⟩
  refine Join.use fun J4 hJ4 => If.neg rfl ?_
  rw [hJ4]
  refine Join.use fun J5 hJ5 => If.neg rfl ?_
  refine nil_ptr_eql h66 ⟨_, rfl, ?_⟩
  rw [hJ5]
  refine Join.use fun J6 hJ6 => If.neg rfl ?_
  rw [hJ6]
  refine If.neg rfl ?_
  intro W18 hb18
  have h318 := belowAt hb18 h317
  refine Ld1.ad h318 (u := .int .u64 12) rfl ⟨_, rfl, ?_⟩
  refine Join.use fun J7 hJ7 => If.pos rfl ?_
  refine Ld1.ad h318 (u := .int .u64 3) rfl ⟨_, rfl, ?_⟩
  rw [hJ7]
  refine Join.use fun J8 hJ8 => If.pos rfl ?_
  have B18 : Below W15.heap.size W15 W18 := B17.trans (hb18.mono B17.size)
  have hsl18 := hsl15.bel B18
  refine Ld1.ad h318 (u := .slice a x3.l.length c) rfl ⟨_, _, _, rfl, ?_⟩
  obtain ⟨pa, hpa, hrow⟩ := hsl18.rd.row encN_len (j := 1) (x := (p3, 7, 3)) rfl
  subst hpa
  refine IdxS.mk (j := 1) rfl (by decide) ?_
  refine ⟨encN (p3, 7, 3), rfl, hrow, ?_⟩
  refine CallK.mk (at_gives 3 rfl) ?_
  rintro _ W19 ⟨rfl, hb19⟩
  have B19 : Below W15.heap.size W15 W19 := B18.trans (hb19.mono B18.size)
  have hsl19 := hsl15.bel B19
  obtain ⟨pa', hpa', hrow'⟩ := hsl19.rd.row encN_len (j := 1) (x := (p3, 7, 3)) rfl
  cases hpa'
  refine ⟨⟨rfl, hrow'⟩, ?_⟩
  refine StL.ad (belowAt hb19 h318) (u := .slice (some pa) x3.l.length c) rfl ?_
  refine ⟨⟨rfl, by decide, rfl, by decide, rfl, by decide, trivial⟩, ?_⟩
  refine eq86.eql (cs := encN (p3, 7, 3)) (ds := encN (p3, 7, 3)) (encN_typed wN3) (encN_typed wN3) fun r hr => ⟨_, rfl, ?_⟩
  obtain rfl : r = true := hr.2 rfl
  rw [hJ8]
  -- what it says of prefixes
  have R : ∀ W', Below W15.heap.size W15 W' → SumR W' b S x3 := fun W' hb => hR15.below hb
  refine Join.use fun J9 hJ9 => If.pos rfl ?_
  refine CallK.mk (at_gives 3 rfl) ?_
  rintro _ W20 ⟨rfl, hb20⟩
  have B20 : Below W15.heap.size W15 W20 := B19.trans (hb20.mono B19.size)
  refine CallK.mk (low_gives (R _ B20) m3 p3) ?_
  rintro _ W21 ⟨rfl, hb21⟩
  have B21 : Below W15.heap.size W15 W21 := B20.trans (hb21.mono B20.size)
  refine ⟨_, rfl, ?_⟩
  rw [hJ9, show lowS x3 p3 = 4 by kernel_rfl]
  refine Join.use fun J10 hJ10 => If.pos rfl ?_
  refine CallK.mk (at_gives 3 rfl) ?_
  rintro _ W22 ⟨rfl, hb22⟩
  have B22 : Below W15.heap.size W15 W22 := B21.trans (hb22.mono B21.size)
  refine CallK.mk (high_gives (R _ B22) p3) ?_
  rintro _ W23 ⟨rfl, hb23⟩
  have B23 : Below W15.heap.size W15 W23 := B22.trans (hb23.mono B22.size)
  refine ⟨_, rfl, ?_⟩
  rw [hJ10, show highS x3 p3 = 7 by kernel_rfl]
  refine Join.use fun J11 hJ11 => If.pos rfl ?_
  refine CallK.mk (at_gives 2 rfl) ?_
  rintro _ W24 ⟨rfl, hb24⟩
  have B24 : Below W15.heap.size W15 W24 := B23.trans (hb24.mono B23.size)
  refine CallK.mk (high_gives (R _ B24) p2) ?_
  rintro _ W25 ⟨rfl, hb25⟩
  have B25 : Below W15.heap.size W15 W25 := B24.trans (hb25.mono B24.size)
  refine ⟨_, rfl, ?_⟩
  rw [hJ11, show highS x3 p2 = 3 by kernel_rfl]
  refine Join.use fun J12 hJ12 => If.pos rfl ?_
  refine CallK.mk (at_gives 2 rfl) ?_
  rintro _ W26 ⟨rfl, hb26⟩
  have B26 : Below W15.heap.size W15 W26 := B25.trans (hb26.mono B25.size)
  refine CallK.mk (low_gives (R _ B26) m3 p2) ?_
  rintro _ W27 ⟨rfl, hb27⟩
  have B27 : Below W15.heap.size W15 W27 := B26.trans (hb27.mono B26.size)
  refine ⟨_, rfl, ?_⟩
  rw [hJ12, show lowS x3 p2 = 0 by kernel_rfl]
  refine Join.use fun J13 hJ13 => If.pos rfl ?_
  refine LdNC.mk (belowAt B27 h315) (cs := hdS x3 (some pa) x3.l.length c) rfl rfl ?_
  refine CallK.mk (right_gives m3.wf (hsl15.bel B27).rd rfl) ?_
  rintro _ W28 ⟨⟨r28, rfl, hr28⟩, hb28⟩
  obtain rfl : r28 = true := hr28.2 m3
  have B28 : Below W15.heap.size W15 W28 := B27.trans (hb28.mono B27.size)
  refine ⟨_, rfl, ?_⟩
  rw [hJ13]
  refine Join.use fun J14 hJ14 => If.pos rfl ?_
  refine LdNC.mk (belowAt B28 h315) (cs := hdS x3 (some pa) x3.l.length c) rfl rfl ?_
  have B1628 : Below W16.heap.size W16 W28 := by
    have e := hb17.trans (hb18.mono hb17.size)
    have e := e.trans (hb19.mono e.size)
    have e := e.trans (hb20.mono e.size)
    have e := e.trans (hb21.mono e.size)
    have e := e.trans (hb22.mono e.size)
    have e := e.trans (hb23.mono e.size)
    have e := e.trans (hb24.mono e.size)
    have e := e.trans (hb25.mono e.size)
    have e := e.trans (hb26.mono e.size)
    have e := e.trans (hb27.mono e.size)
    exact e.trans (hb28.mono e.size)
  refine CallK.mk (state_gives (hRt.below B1628) m3) ?_
  rintro _ W29 ⟨u', rfl, hsl', _, hb29⟩
  have B29 : Below W15.heap.size W15 W29 := B28.trans (hb29.mono B28.size)
  obtain ⟨a', c', rfl⟩ := hsl'.shape
  refine StN.mk (belowAt B29 h315) (cs := (hdS x3 (some pa) x3.l.length c).toArray) rfl rfl ?_
  have wN : ∀ d ∈ x3.l, WfN d := m3.wf.l
  refine CallK.mk (same_gives (x := x3) (y := x3) (n := x3.l.length) (n' := x3.l.length) wN wN hsl'.rd rfl (hsl15.bel B29).rd rfl (by decide)) ?_
  rintro _ W30 ⟨⟨r30, rfl, hr30⟩, hb30⟩
  obtain rfl : r30 = true := hr30.2 rfl
  have B30 : Below W15.heap.size W15 W30 := B29.trans (hb30.mono B29.size)
  refine ⟨_, rfl, ?_⟩
  rw [hJ14]
  refine Join.use fun J15 hJ15 => If.pos rfl ?_
  refine CallK.mk (new_out (.inl (by decide))) ?_
  rintro _ W31 ⟨rfl, e31⟩
  obtain rfl := e31.symm
  refine ⟨_, rfl, ?_⟩
  refine nil_ptr_eql h66 ⟨_, rfl, ?_⟩
  rw [hJ15]
  refine Join.use fun J16 hJ16 => If.pos rfl ?_
  refine CallK.mk (at_gives 1 rfl) ?_
  rintro _ W32 ⟨rfl, hb32⟩
  have B32 : Below W15.heap.size W15 W32 := B30.trans (hb32.mono B30.size)
  refine CallK.mk (insert_nil _ _) ?_
  rintro _ W33 ⟨rfl, hb33⟩
  have B33 : Below W15.heap.size W15 W33 := B32.trans (hb33.mono B32.size)
  refine ⟨_, rfl, ?_⟩
  rw [hJ16]
  exact ⟨rfl, (f015.trans (frOf B33)).bel⟩)
end Go.Proofs.Ytcagnabglppenaa.Sv
namespace Go.Proofs.Ytcagnabglppenaa.Sv
open Go Go.RowKit Go.Vc Go.Proofs.Ytcagnabglppenaa.Fs Go.Proofs.Ytcagnabglppenaa.Px Go.Proofs.Ytcagnabglppenaa.Hq

theorem row_take {W : World} {p : Addr} {cs : List Value} (h : Row W p cs) (m : Nat) : Row W p (cs.take m) := fun i u hi => by
  rw [List.getElem?_take] at hi
  split at hi
  · exact h i u hi
  · cases hi
theorem t71 : Try.prog.underlying 71 = some (.slice 75) := by kernel_rfl
theorem i75 : ∃ i, Try.prog.info? 75 = some i ∧ i.zero = some (.agg (zeroP ++ [Value.int .u64 0]).toArray) ∧ i.size = 13 ∧ i.bytes = 120 := by
  have h : (Try.prog.info? 75).map (fun i => (i.zero, i.size, i.bytes)) = some (some (.agg (zeroP ++ [Value.int .u64 0]).toArray), 13, 120) := by kernel_rfl
  cases hi : Try.prog.info? 75 with
  | none => rw [hi] at h; cases h
  | some i => rw [hi] at h; simp only [Option.map_some, Option.some.injEq, Prod.mk.injEq] at h; exact ⟨i, rfl, h.1, h.2.1, h.2.2⟩
def WfL (l : List Hq.Item) : Prop := ∀ i ∈ l, 0 ≤ i.2 ∧ i.2 < 18446744073709551616
/-- A summary, and what was taken. -/
def stepR (s : Sv × List Hq.Item) (i : Hq.Item) : Sv × List Hq.Item := ((ins s.1 i.1 i.2).1, if (ins s.1 i.1 i.2).2 = 0 then s.2 ++ [i] else s.2)
def runR (s : Sv × List Hq.Item) (l : List Hq.Item) : Sv × List Hq.Item := l.foldl stepR s
theorem runR_snoc (s : Sv × List Hq.Item) (l : List Hq.Item) (i : Hq.Item) : runR s (l ++ [i]) = stepR (runR s l) i := by unfold runR; rw [List.foldl_append]; rfl
theorem runR_may {s : Sv × List Hq.Item} (h : May s.1) : ∀ l : List Hq.Item, WfL l → May (runR s l).1
  | l, hl => by
    induction l generalizing s with
    | nil => exact h
    | cons i r ih => exact ih (s := stepR s i) (h.ins (hl i (by simp)).1 (ins_is h i.1 i.2)) fun j hj => hl j (by simp [hj])
def runK (k : Int) (l : List Hq.Item) : Sv × List Hq.Item := runR (⟨k, 0, 0, []⟩, []) (l.take 3000)
theorem run_out {W : World} {k : Int} (hk : k < 1 ∨ 200 < k) {l : List Hq.Item} {a : Option Addr} {n c : Nat} (hr : RdL W 13 encC a l) (hn : n = l.length) :
    Gives Try.prog 54 #[.int .i64 k, .slice a n c] W fun v W' => v = .tuple #[.pointer none, .slice none 0 0] ∧ Below W.heap.size W W' := F54_fn (by
  unfold F54
  refine CallK.mk (new_out hk) ?_
  rintro _ W0 ⟨rfl, e⟩
  obtain rfl := e.symm
  refine ⟨_, rfl, ?_⟩
  refine Lp.enc (fun s : Int => [.slice none 0 0, .int .i64 s]) (fun s t hst => by simpa using hst)
    (fun s W' => ∃ j : Nat, s = (j : Int) ∧ j ≤ 3000 ∧ Below W.heap.size W W') (fun s _ => (4000 - s).toNat) 0 rfl ⟨0, rfl, by omega, Below.refl _ _⟩ ?_
  rintro s W1 kk ⟨j, rfl, hj, hb⟩ hkk
  refine AsL.mk rfl (AsI.mk (Join.use fun J hJ => ?_))
  have fin : J false W1 := by rw [hJ]; exact If.neg rfl ⟨rfl, hb⟩
  refine If.dec (fun h1 => ?_) fun _ => fin
  by_cases h2 : (j : Int) < 3000
  · have : decide ((j : Int) < 3000) = true := decide_eq_true h2
    rw [this, hJ]
    have hx : l[j]? = some (l[j]'(by omega)) := List.getElem?_eq_getElem (by omega)
    generalize (l[j]'(by omega)) = x at hx
    obtain ⟨p, hp, hrow⟩ := (hr.bel hb).row encC_len hx
    subst hp
    refine If.pos rfl (IdxS.mk rfl (by omega) ?_)
    refine ⟨encP x.1, rfl, row_take hrow 12, ?_⟩
    intro W2 hb2
    have hB2 := hb.trans (hb2.mono hb.size)
    obtain ⟨p', hp', hrow'⟩ := (hr.bel hB2).row encC_len hx
    cases hp'
    refine IdxS.mk rfl (by omega) ⟨.int .u64 x.2, hrow' 12 _ rfl, _, rfl, ?_⟩
    refine CallK.mk (insert_nil _ _) ?_
    rintro _ W3 ⟨rfl, hb3⟩
    have hB3 := hB2.trans (hb3.mono hB2.size)
    refine ⟨_, rfl, Join.use fun J1 hJ1 => If.neg rfl ?_⟩
    rw [hJ1]
    show kk [.slice none 0 0, .int .i64 (IntKind.i64.wrap ((j : Int) + 1))] W3
    rw [nsucc (by omega)]
    exact hkk ((j + 1 : Nat) : Int) W3 ⟨j + 1, rfl, by omega, hB3⟩ (by omega)
  · have : decide ((j : Int) < 3000) = false := decide_eq_false h2
    rw [this]; exact fin)
theorem run_gives {W : World} {k : Int} (h1 : 1 ≤ k) (h2 : k ≤ 200) {l : List Hq.Item} {a : Option Addr} {n c : Nat} (hw : WfL l) (hr : RdL W 13 encC a l) (hn : n = l.length) :
    Gives Try.prog 54 #[.int .i64 k, .slice a n c] W fun v W' => ∃ b u S, v = .tuple #[ptr b, u] ∧ SumR W' b S (runK k l).1 ∧ (∀ q, S q → W.heap.size ≤ q) ∧ SlR W' 75 13 encC u (runK k l).2 ∧ (∀ g, u.ownBlock = some g → W.heap.size ≤ g ∧ ¬ S g) ∧ Below W.heap.size W W' := F54_fn (by
  unfold F54
  refine CallK.mk (new_gives h1 h2) ?_
  rintro _ W1 ⟨b, rfl, hR1, hb1⟩
  refine ⟨_, rfl, ?_⟩
  have hm0 : May (⟨k, 0, 0, []⟩ : Sv) := may_new h1 h2
  refine Lp.enc (fun s : (Option Addr × Nat × Nat) × Int => [.slice s.1.1 s.1.2.1 s.1.2.2, .int .i64 s.2]) (fun s t hst => by
      simp only [List.cons.injEq, Value.slice.injEq, Value.int.injEq, true_and, and_true] at hst
      exact Prod.ext (Prod.ext hst.1.1 (Prod.ext hst.1.2.1 hst.1.2.2)) hst.2)
    (fun s W' => ∃ (j : Nat) (S : Nat → Prop), s.2 = (j : Int) ∧ j ≤ 3000 ∧ j ≤ l.length ∧ SumR W' b S (runR (⟨k, 0, 0, []⟩, []) (l.take j)).1 ∧ (∀ q, S q → W.heap.size ≤ q) ∧
      SlR W' 75 13 encC (.slice s.1.1 s.1.2.1 s.1.2.2) (runR (⟨k, 0, 0, []⟩, []) (l.take j)).2 ∧ (∀ g, (Value.slice s.1.1 s.1.2.1 s.1.2.2).ownBlock = some g → W.heap.size ≤ g ∧ ¬ S g) ∧ (runR (⟨k, 0, 0, []⟩, []) (l.take j)).2.length ≤ j ∧ Fr (fun q => W.heap.size ≤ q) W W')
    (fun s _ => (4000 - s.2).toNat) ((none, 0, 0), 0) rfl ⟨0, _, rfl, by omega, Nat.zero_le _, hR1, fun q hq => hq.elim (fun h => h.elim) fun h => h.1, SlR.nil _ _, fun g hg => (by cases hg), Nat.le_refl _, frOf hb1⟩ ?_
  rintro ⟨⟨a7, n7, c7⟩, s⟩ W2 kk ⟨j, S, hj, hj3, hjl, hR, hS, hsl, hown, hlen, hf⟩ hkk
  simp only at hj hsl hown
  subst hj
  refine AsL.mk rfl (AsI.mk (Join.use fun J hJ => ?_))
  have fin : l.take 3000 = l.take j → J false W2 := fun e => by
    rw [hJ]
    refine If.neg rfl ⟨b, _, S, rfl, ?_, hS, ?_, hown, hf.bel⟩
    · unfold runK; rw [e]; exact hR
    · unfold runK; rw [e]; exact hsl
  refine If.dec (fun hlt => ?_) fun hge => fin (by
    have hge' : ¬ (j : Int) < (n : Int) := hge
    rw [List.take_of_length_le (by omega), List.take_of_length_le (by omega)])
  have hlt' : (j : Int) < (n : Int) := hlt
  dsimp only
  by_cases h3 : (j : Int) < 3000
  · have : decide ((j : Int) < 3000) = true := decide_eq_true h3
    rw [this, hJ]
    have hx : l[j]? = some (l[j]'(by omega)) := List.getElem?_eq_getElem (by omega)
    generalize (l[j]'(by omega)) = x at hx
    have hxw := hw x (List.mem_of_getElem? hx)
    have hM : May (runR (⟨k, 0, 0, []⟩, []) (l.take j)).1 := runR_may hm0 _ fun i hi => hw i (List.mem_of_mem_take hi)
    obtain ⟨p, hp, hrow⟩ := (hr.bel hf.bel).row encC_len hx
    subst hp
    refine If.pos rfl (IdxS.mk rfl (by omega) ?_)
    refine ⟨encP x.1, rfl, row_take hrow 12, ?_⟩
    intro W3 hb3
    have hf3 := hf.trans (frOf hb3)
    obtain ⟨p', hp', hrow'⟩ := (hr.bel hf3.bel).row encC_len hx
    cases hp'
    refine IdxS.mk rfl (by omega) ⟨.int .u64 x.2, hrow' 12 _ rfl, _, rfl, ?_⟩
    have hR3 := hR.below hb3
    have hsl3 := hsl.bel hb3
    refine CallK.mk (insert_gives hR3 hM x.1 x.2 hxw) ?_
    rintro _ W4 ⟨rfl, hR4, hf4⟩
    have z := hf.size; have z3 := hb3.size; have z4 := hf4.size
    have hsl4 := hsl3.fr hf4 fun g hg => (hown g hg).2
    have hf04 : Fr (fun q => W.heap.size ≤ q) W W4 := hf3.trans' hf4 fun q hq _ => hS q hq
    have hS4 : ∀ q, Hq.grow S W3 W4 q → W.heap.size ≤ q := fun q hq => hq.elim (hS q) fun h => by omega
    have hown4 : ∀ g, (Value.slice a7 n7 c7).ownBlock = some g → W.heap.size ≤ g ∧ ¬ Hq.grow S W3 W4 g := fun g hg => ⟨(hown g hg).1, fun h => h.elim (hown g hg).2 fun h => by have := hsl3.lt hg; omega⟩
    have hstep : runR (⟨k, 0, 0, []⟩, []) (l.take (j + 1)) = stepR (runR (⟨k, 0, 0, []⟩, []) (l.take j)) x := by rw [← (take_step hx).2, runR_snoc]
    refine ⟨_, rfl, Join.use fun J1 hJ1 => ?_⟩
    -- on to the next round
    have next : ∀ (a' : Option Addr) (n' c' : Nat) (W' : World), Fr (fun q => W.heap.size ≤ q) W W' → SumR W' b (Hq.grow S W3 W4) (stepR (runR (⟨k, 0, 0, []⟩, []) (l.take j)) x).1 → SlR W' 75 13 encC (.slice a' n' c') (stepR (runR (⟨k, 0, 0, []⟩, []) (l.take j)) x).2 →
        (∀ g, (Value.slice a' n' c').ownBlock = some g → W.heap.size ≤ g ∧ ¬ Hq.grow S W3 W4 g) → (stepR (runR (⟨k, 0, 0, []⟩, []) (l.take j)) x).2.length ≤ j + 1 → J1 a' n' c' W' := by
      intro a' n' c' W' hf' hR' hsl' hown' hlen'
      rw [hJ1]
      show kk [.slice a' n' c', .int .i64 (IntKind.i64.wrap ((j : Int) + 1))] W'
      rw [nsucc (by omega)]
      refine hkk ((a', n', c'), ((j + 1 : Nat) : Int)) W' ⟨j + 1, _, rfl, by omega, by omega, ?_, hS4, ?_, hown', ?_, hf'⟩ (by simp only; omega)
      · rw [hstep]; exact hR'
      · rw [hstep]; exact hsl'
      · rw [hstep]; exact hlen'
    refine If.beq (fun he => ?_) fun he => ?_
    · have e2 : (stepR (runR (⟨k, 0, 0, []⟩, []) (l.take j)) x).2 = (runR (⟨k, 0, 0, []⟩, []) (l.take j)).2 ++ [x] := by unfold stepR; simp only; rw [if_pos he]
      obtain ⟨p4, hp4, hrow4⟩ := (hr.bel hf04.bel).row encC_len hx
      cases hp4
      refine IdxS.mk rfl (by omega) ⟨encC x, rfl, hrow4, ?_⟩
      refine NewSC.mk (cs := (encC x).toArray) ⟨rfl, by decide, trivial⟩ (by kernel_rfl) fun q W5 hq5 hqe hsz5 hb5 => ?_
      obtain ⟨inf, hi1, hi2, hi3, hi4⟩ := i75
      have hsl5 := hsl4.bel hb5
      obtain ⟨v', W6, hrun, hs6, hgr, hown6⟩ := hsl5.append (P := Try.prog) (ty := 71) (ys := [x]) (c := 1) (a := ⟨q, 0, none⟩) encC_len encC_one t71 hi1 hi2 hi3 hi4 rfl (by decide) (cells_row (by simpa using hq5)) (by simp; omega) (by simp [maxLen]; omega)
      refine ⟨v', W6, hrun, ?_⟩
      obtain ⟨a', c', hv'⟩ := hs6.shape
      refine AsL.mk hv' ?_
      subst hv'
      have hg6 : Fr (fun q => (Value.slice a7 n7 c7).ownBlock = some q) W5 W6 := Fr.grown hgr fun k hk => hk
      have hR5 := hR4.below hb5
      refine next a' _ c' W6 ((hf04.trans (frOf hb5)).trans' hg6 fun q hq _ => (hown q hq).1) (hR5.fr hg6 fun q hq h => (hown4 q h).2 hq) (by rw [e2]; exact hs6) (fun g hg => ?_) (by rw [e2, List.length_append, List.length_singleton]; omega)
      rcases hown6 with e | e
      · rw [e] at hg; exact hown4 g hg
      · rw [e] at hg; cases hg
        exact ⟨by omega, fun h => by have := hR5.2 _ h; omega⟩
    · have e2 : (stepR (runR (⟨k, 0, 0, []⟩, []) (l.take j)) x).2 = (runR (⟨k, 0, 0, []⟩, []) (l.take j)).2 := by unfold stepR; simp only; rw [if_neg he]
      exact next a7 n7 c7 W4 hf04 hR4 (by rw [e2]; exact hsl4) hown4 (by rw [e2]; omega)
  · have : decide ((j : Int) < 3000) = false := decide_eq_false h3
    rw [this]
    refine fin ?_
    rw [show j = 3000 by omega])
end Go.Proofs.Ytcagnabglppenaa.Sv
namespace Go.Proofs.Ytcagnabglppenaa.Sv
open Go Go.RowKit Go.Vc Go.Proofs.Ytcagnabglppenaa.Fs Go.Proofs.Ytcagnabglppenaa.Px Go.Proofs.Ytcagnabglppenaa.Hq

theorem wf64 {n : Int} (h : (Lit.int .u64 n).wf = true) : 0 ≤ n ∧ n < 18446744073709551616 := by
  have e1 : IntKind.u64.min = 0 := by kernel_rfl
  have e2 : IntKind.u64.max = 18446744073709551615 := by kernel_rfl
  have h : (decide (IntKind.u64.min ≤ n) && decide (n ≤ IntKind.u64.max)) = true := h
  rw [e1, e2] at h
  simp only [Bool.and_eq_true, decide_eq_true_eq] at h
  omega
theorem typed_cons {s : Lf} {ss : List Lf} {cs : List Value} (h : Typed (s :: ss) cs) : ∃ v r, cs = v :: r ∧ s.ok v ∧ Typed ss r := by
  cases cs with
  | nil => exact h.elim
  | cons v r => exact ⟨v, r, rfl, h.1, h.2⟩
theorem typed_nil {cs : List Value} (h : Typed [] cs) : cs = [] := by
  cases cs with
  | nil => rfl
  | cons v r => exact h.elim
theorem dec_P {ss : List Lf} {cs : List Value} (h : Typed (lfP ++ ss) cs) : ∃ (p : Pfx) (r : List Value), cs = encP p ++ r ∧ Typed ss r := by
  obtain ⟨_, _, rfl, ⟨a0, rfl, w0⟩, h1⟩ := typed_cons h
  obtain ⟨_, _, rfl, ⟨a1, rfl, w1⟩, h2⟩ := typed_cons h1
  obtain ⟨_, _, rfl, ⟨a2, rfl, w2⟩, h3⟩ := typed_cons h2
  obtain ⟨_, _, rfl, ⟨a3, rfl, w3⟩, h4⟩ := typed_cons h3
  obtain ⟨_, _, rfl, ⟨a4, rfl, w4⟩, h5⟩ := typed_cons h4
  obtain ⟨_, _, rfl, ⟨a5, rfl, w5⟩, h6⟩ := typed_cons h5
  obtain ⟨_, _, rfl, ⟨a6, rfl, w6⟩, h7⟩ := typed_cons h6
  obtain ⟨_, _, rfl, ⟨a7, rfl, w7⟩, h8⟩ := typed_cons h7
  obtain ⟨_, _, rfl, ⟨a8, rfl, w8⟩, h9⟩ := typed_cons h8
  obtain ⟨_, _, rfl, ⟨a9, rfl, w9⟩, h10⟩ := typed_cons h9
  obtain ⟨_, _, rfl, ⟨b0, rfl, v0⟩, h11⟩ := typed_cons h10
  obtain ⟨_, _, rfl, ⟨b1, rfl, v1⟩, h12⟩ := typed_cons h11
  exact ⟨⟨a0, a1, ⟨a2, a3, a4, a5, a6, ⟨⟨_, rfl, w2⟩, ⟨_, rfl, w3⟩, ⟨_, rfl, w4⟩, ⟨_, rfl, w5⟩, ⟨_, rfl, w6⟩, trivial⟩⟩, ⟨a7, a8, a9, b0, b1, ⟨⟨_, rfl, w7⟩, ⟨_, rfl, w8⟩, ⟨_, rfl, w9⟩, ⟨_, rfl, v0⟩, ⟨_, rfl, v1⟩, trivial⟩⟩, ⟨⟨_, rfl, w0⟩, ⟨_, rfl, w1⟩, trivial⟩⟩, _, rfl, h12⟩
instance : Inhabited Pfx := ⟨p1⟩
theorem dec_load (cs : List Value) (h : Typed (lfP ++ [.int .u64]) cs) : ∃ x : Hq.Item, cs = encC x ∧ 0 ≤ x.2 ∧ x.2 < 18446744073709551616 := by
  obtain ⟨p, r, rfl, h1⟩ := dec_P h
  obtain ⟨_, _, rfl, ⟨n, rfl, hn⟩, h2⟩ := typed_cons h1
  obtain rfl := typed_nil h2
  exact ⟨(p, n), rfl, wf64 hn⟩
end Go.Proofs.Ytcagnabglppenaa.Sv
