/- The reference of melt: merging and folding; MeltTells and MeltFolds walked. -/
import Derived.Test.YtcagnabglppenaaMo
import Derived.Test.YtcagnabglppenaaPvs
import Derived.Test.YtcagnabglppenaaXa
import Derived.Test.YtcagnabglppenaaWn
namespace Go.Proofs.Ytcagnabglppenaa.Me
open Go Go.RowKit Go.Vc Go.Proofs.Ytcagnabglppenaa.Fs Go.Proofs.Ytcagnabglppenaa.Px Go.Proofs.Ytcagnabglppenaa.Hq Go.Proofs.Ytcagnabglppenaa.Sv

/-! ### Where the cut is -/
theorem above_gives {W : World} {l : List Cnt} {a : Option Addr} {n c : Nat} (hr : RdL W 14 encN a l) (hn : n = l.length) (hl : l.length < 1000000) (s : Int) :
    Gives Try.prog 103 #[.slice a n c, .int .u64 s] W fun v W' => v = .int .i64 ((l.filter fun d => decide (s < d.2.1)).length : Int) ∧ Below W.heap.size W W' := F103_fn (by
  unfold F103
  subst hn
  refine Lp.of (fun j : Nat => [.int .i64 ((((l.take j).filter fun d => decide (s < d.2.1)).length : Nat) : Int), .int .i64 (j : Int)]) (fun j W' => j ≤ l.length ∧ W' = W) (fun j => l.length - j) 0 (by simp) ⟨Nat.zero_le _, rfl⟩ ?_
  rintro j W1 k ⟨hj, rfl⟩ hk
  refine AsI.mk (AsI.mk (If.dec (fun hlt => ?_) fun hge => ?_))
  · have hlt' : j < l.length := by have : (j : Int) < (l.length : Int) := hlt; omega
    have htk : l.take (j + 1) = l.take j ++ [l[j]] := List.take_succ_eq_append_getElem hlt'
    have hfl : ((l.take j).filter fun d => decide (s < d.2.1)).length ≤ j := Nat.le_trans (List.length_filter_le _ _) (by simp; omega)
    refine hr.get1 encN_len rfl rfl (List.getElem?_eq_getElem hlt') (c := 12) (u := .int .u64 l[j].2.1) rfl (AsI.mk ?_)
    refine Join.use fun J hJ => ?_
    have next : ∀ m : Nat, m = ((l.take (j + 1)).filter fun d => decide (s < d.2.1)).length → J (m : Int) W1 := fun m hm => by
      rw [hJ, nsucc (by omega), hm]
      exact hk (j + 1) W1 ⟨hlt', rfl⟩ (by omega)
    refine If.dec (fun h => ?_) fun h => ?_
    · rw [nsucc (by omega)]
      refine next _ ?_
      rw [htk, List.filter_append, List.filter_cons_of_pos (by simpa using h)]; simp
    · refine next _ ?_
      rw [htk, List.filter_append, List.filter_cons_of_neg (by simpa using h)]; simp
  · have hge' : ¬ (j : Int) < (l.length : Int) := hge
    rw [List.take_of_length_le (by omega)]
    exact ⟨rfl, Below.refl _ _⟩)
theorem least_at {l : List Cnt} {s : Int} : (l.filter fun d => decide (s - 1 < d.2.1)) = l.filter fun d => decide (s ≤ d.2.1) := by
  congr 1
  funext d
  by_cases h : s ≤ d.2.1
  · rw [decide_eq_true h, decide_eq_true (by omega : s - 1 < d.2.1)]
  · rw [decide_eq_false h, decide_eq_false (by omega : ¬ s - 1 < d.2.1)]
theorem rcut_gives {W : World} {l : List Cnt} {a : Option Addr} {n c : Nat} (hr : RdL W 14 encN a l) (hn : n = l.length) (hl : l.length < 1000000) (hc : ∀ d ∈ l, 0 ≤ d.2.1 ∧ d.2.1 < 18446744073709551616) {k : Int} (k0 : 0 ≤ k) (hk : k < l.length) :
    Gives Try.prog 68 #[.slice a n c, .int .i64 k] W fun v W' => v = .int .u64 (kthC l k.toNat) ∧ Below W.heap.size W W' := F68_fn (by
  unfold F68
  subst hn
  have hK := kth_ex (l := l) (k := k.toNat) (by omega)
  refine Lp.of (fun j : Nat => [.int .u64 0, .int .i64 (j : Int)]) (fun j W' => j ≤ l.length ∧ (∀ i d, i < j → l[i]? = some d → ¬ Kth l k.toNat d.2.1) ∧ Below W.heap.size W W') (fun j => l.length - j) 0 rfl ⟨Nat.zero_le _, fun i d h => by omega, Below.refl _ _⟩ ?_
  rintro j W1 kk ⟨hj, hall, hb⟩ hkk
  refine AsI.mk (AsI.mk (If.dec (fun hlt => ?_) fun hge => ?_))
  · have hlt' : j < l.length := by have : (j : Int) < (l.length : Int) := hlt; omega
    have hx : l[j]? = some l[j] := List.getElem?_eq_getElem hlt'
    have hmem : l[j] ∈ l := List.getElem_mem hlt'
    generalize l[j] = d at hx hmem
    have hd := hc d hmem
    refine (hr.bel hb).get1 encN_len rfl rfl hx (c := 12) (u := .int .u64 d.2.1) rfl (AsI.mk ?_)
    refine CallK.mk (above_gives (hr.bel hb) rfl hl d.2.1) ?_
    rintro _ W2 ⟨rfl, hb2⟩
    have hb := hb.trans (hb2.mono hb.size)
    refine AsI.mk (Join.use fun J hJ => ?_)
    have yes : ∀ W', Kth l k.toNat d.2.1 → Below W.heap.size W W' → J true W' := fun W' h hb => by
      rw [hJ]; exact If.pos rfl ⟨by rw [h.eq], hb⟩
    have no : ∀ W', ¬ Kth l k.toNat d.2.1 → Below W.heap.size W W' → J false W' := fun W' h hb => by
      rw [hJ]
      refine If.neg rfl ?_
      rw [nsucc (by omega)]
      refine hkk (j + 1) W' ⟨hlt', fun i e hi he => ?_, hb⟩ (by omega)
      rcases Nat.lt_or_ge i j with h1 | h1
      · exact hall i e h1 he
      · have : i = j := by omega
        subst this; rw [hx] at he; cases he; exact h
    refine If.dec (fun hab => ?_) fun hab => no W2 (fun h => hab (by have := h.above; omega)) hb
    refine Join.use fun J1 hJ1 => If.beq (fun h0 => ?_) fun h0 => ?_
    · rw [hJ1]
      refine yes W2 ⟨⟨d, hmem, rfl⟩, by omega, ?_⟩ hb
      have h0' : d.2.1 = 0 := h0
      have : (l.filter fun e => decide (d.2.1 ≤ e.2.1)) = l := List.filter_eq_self.2 fun e he => by
        have := hc e he; simp only [decide_eq_true_eq]; omega
      rw [this]; omega
    · have h0' : d.2.1 ≠ 0 := h0
      rw [wrap_u64 (x := d.2.1 - 1) (by omega) (by omega)]
      refine CallK.mk (above_gives (hr.bel hb) rfl hl (d.2.1 - 1)) ?_
      rintro _ W3 ⟨rfl, hb3⟩
      have hb := hb.trans (hb3.mono hb.size)
      refine AsI.mk ?_
      rw [hJ1, least_at]
      by_cases hg : (((l.filter fun e => decide (d.2.1 ≤ e.2.1)).length : Nat) : Int) > k
      · rw [decide_eq_true hg]; exact yes W3 ⟨⟨d, hmem, rfl⟩, by omega, by omega⟩ hb
      · rw [decide_eq_false hg]; exact no W3 (fun h => hg (by have := h.least; omega)) hb
  · have hge' : ¬ (j : Int) < (l.length : Int) := hge
    obtain ⟨d, hd, e⟩ := hK.mem
    obtain ⟨i, hi⟩ := List.getElem?_of_mem hd
    exact absurd (e ▸ hK : Kth l k.toNat d.2.1) (hall i d (by have := (List.getElem?_eq_some_iff.1 hi).1; omega) hi))

/-! ### The zipped list, prefix by prefix -/
def addC (x y : Sv) (o : List Cnt) (p : Pfx) : List Cnt := if hasC o p = true then o else withC o (p, highS x p + highS y p, highS x p + highS y p - (lowS x p + lowS y p))
structure Zl (x y : Sv) (o : List Cnt) : Prop where
  asc : Asc o
  each : ∀ c ∈ o, c = (c.1, highS x c.1 + highS y c.1, highS x c.1 + highS y c.1 - (lowS x c.1 + lowS y c.1))
theorem addC_has {x y : Sv} {o : List Cnt} {p q : Pfx} : Has (addC x y o p) q ↔ Has o q ∨ p = q := by
  unfold addC
  split
  · rename_i h
    exact ⟨.inl, fun hh => hh.elim id fun e => e ▸ hasC_iff.1 h⟩
  · have hp := withC_perm o (p, highS x p + highS y p, highS x p + highS y p - (lowS x p + lowS y p))
    refine ⟨fun ⟨c, hc, e⟩ => ?_, fun h => ?_⟩
    · rcases List.mem_cons.1 (hp.mem_iff.1 hc) with rfl | hc
      · exact .inr e
      · exact .inl ⟨c, hc, e⟩
    · rcases h with ⟨c, hc, e⟩ | rfl
      · exact ⟨c, hp.mem_iff.2 (List.mem_cons_of_mem _ hc), e⟩
      · exact ⟨_, hp.mem_iff.2 List.mem_cons_self, rfl⟩
theorem Zl.add {x y : Sv} {o : List Cnt} (h : Zl x y o) (p : Pfx) : Zl x y (addC x y o p) := by
  unfold addC
  split
  · exact h
  · rename_i hn
    have hn' : ¬ Has o p := fun hh => hn (hasC_iff.2 hh)
    refine ⟨withC_asc h.asc hn', fun c hc => ?_⟩
    rcases List.mem_cons.1 ((withC_perm o _).mem_iff.1 hc) with rfl | hc
    · rfl
    · exact h.each c hc
theorem addC_len {x y : Sv} {o : List Cnt} (p : Pfx) : (addC x y o p).length ≤ o.length + 1 := by
  unfold addC
  split
  · omega
  · rw [(withC_perm o _).length_eq]; simp
theorem foldAdd_has {x y : Sv} : ∀ (l : List Cnt) (o : List Cnt) (q : Pfx), Has (l.foldl (fun o c => addC x y o c.1) o) q ↔ Has o q ∨ Has l q
  | [], o, q => by simp [Has]
  | c :: l, o, q => by
    rw [List.foldl_cons, foldAdd_has l, addC_has]
    refine ⟨fun h => ?_, fun h => ?_⟩
    · rcases h with (h | h) | ⟨d, hd, e⟩
      · exact .inl h
      · exact .inr ⟨c, List.mem_cons_self, h⟩
      · exact .inr ⟨d, List.mem_cons_of_mem _ hd, e⟩
    · rcases h with h | ⟨d, hd, e⟩
      · exact .inl (.inl h)
      · rcases List.mem_cons.1 hd with rfl | hd
        · exact .inl (.inr e)
        · exact .inr ⟨d, hd, e⟩
theorem foldAdd_zl {x y : Sv} : ∀ (l : List Cnt) (o : List Cnt), Zl x y o → Zl x y (l.foldl (fun o c => addC x y o c.1) o)
  | [], _, h => h
  | c :: l, o, h => foldAdd_zl l _ (h.add c.1)
theorem zl_zip {x y : Sv} (hX : May x) (hY : May y) : Zl x y (zipL x.sl y.sl x.l y.l) := by
  have hz := zip_zip x.sl y.sl x.l y.l hX.asc hY.asc
  have ha := hz.asc hX.asc hY.asc
  refine ⟨ha, fun c hc => ?_⟩
  have hg : getC (zipL x.sl y.sl x.l y.l) c.1 = some c := by
    cases hg : getC (zipL x.sl y.sl x.l y.l) c.1 with
    | none => exact absurd ⟨c, hc, rfl⟩ (getC_has.1 hg)
    | some d => rw [ha.uniq (getC_some hg).1 hc (getC_some hg).2]
  rcases hz.get hX.asc hY.asc c.1 with ⟨g1, _, _⟩ | ⟨d, g1, g2, g3⟩
  · rw [hg] at g1; cases g1
  · rw [hg] at g1; cases g1
    rw [← hi_eq x, ← hi_eq y] at g2
    rw [← lo_eq x, ← lo_eq y] at g3
    exact Prod.ext rfl (Prod.ext g2 (by simp only; omega))
theorem zl_eq {x y : Sv} {o d : List Cnt} (ho : Zl x y o) (hd : Zl x y d) (h : ∀ p, Has o p ↔ Has d p) : o = d := asc_ext ho.asc hd.asc fun c => by
  refine ⟨fun hc => ?_, fun hc => ?_⟩
  · obtain ⟨e, he, e1⟩ := (h c.1).1 ⟨c, hc, rfl⟩
    have h1 := ho.each c hc
    have h2 := hd.each e he
    rw [e1, ← h1] at h2
    rw [← h2]; exact he
  · obtain ⟨e, he, e1⟩ := (h c.1).2 ⟨c, hc, rfl⟩
    have h1 := hd.each c hc
    have h2 := ho.each e he
    rw [e1, ← h1] at h2
    rw [← h2]; exact he
theorem zip_has {x y : Sv} (hX : May x) (hY : May y) (p : Pfx) : Has (zipL x.sl y.sl x.l y.l) p ↔ Has x.l p ∨ Has y.l p := by
  have hz := zip_zip x.sl y.sl x.l y.l hX.asc hY.asc
  rcases hz.get hX.asc hY.asc p with ⟨g1, g2, g3⟩ | ⟨c, g1, g2, g3⟩
  · exact ⟨fun h => absurd h (getC_has.1 g1), fun h => h.elim (fun h => absurd h (getC_has.1 g2)) fun h => absurd h (getC_has.1 g3)⟩
  · refine ⟨fun _ => ?_, fun _ => ⟨c, (getC_some g1).1, (getC_some g1).2⟩⟩
    obtain ⟨hc1, hc2⟩ := getC_some g1
    rcases hz.from c hc1 with ⟨a, ha, e⟩ | ⟨a, ha, e⟩
    · exact .inl ⟨a, ha, e.trans hc2⟩
    · exact .inr ⟨a, ha, e.trans hc2⟩
theorem fold_zip {x y : Sv} (hX : May x) (hY : May y) : y.l.foldl (fun o c => addC x y o c.1) (x.l.foldl (fun o c => addC x y o c.1) []) = zipL x.sl y.sl x.l y.l := by
  refine zl_eq (foldAdd_zl _ _ (foldAdd_zl _ _ ⟨List.Pairwise.nil, fun c hc => by cases hc⟩)) (zl_zip hX hY) fun p => ?_
  rw [foldAdd_has, foldAdd_has, zip_has hX hY]
  simp [Has]
theorem add_gives {W : World} {x y : Sv} (hX : May x) (hY : May y) {a a' ao : Option Addr} {n c n' c' no co : Nat} {o : List Cnt} (hx : RdL W 14 encN a x.l) (hn : n = x.l.length) (hy : RdL W 14 encN a' y.l) (hn' : n' = y.l.length) (ho : RdL W 14 encN ao o) (hno : no = o.length) (hco : o.length ≤ co) (hlo : o.length ≤ 1000) (p : Pfx) :
    Gives Try.prog 67 #[.slice ao no co, .agg (hdS x a n c).toArray, .agg (hdS y a' n' c').toArray, kv p] W fun v W' => ((addC x y o p = o ∧ v = .slice ao no co) ∨ NewSl W 86 14 encN (addC x y o p) v W') ∧ Below W.heap.size W W' := F67_fn (by
  unfold F67
  subst hn hn' hno
  have hS := Ow.start NoS W
  refine hS.new fun b5 W1 hS => hS.new fun b6 W2 hS => hS.new fun b7 W3 hS => ?_
  refine hS.ldw 0 rfl rfl ?_
  refine hS.callv (place_gives (ho.bel hS.bel) rfl (by omega) p) fun W4 hS => AsI.mk ?_
  refine If.dec (fun hge => ?_) fun hlt => ?_
  · refine ⟨.inl ⟨?_, rfl⟩, hS.bel⟩
    unfold addC; rw [if_pos (hasC_iff.2 (placeI_has.1 hge))]
  · have hnh : ¬ Has o p := fun h => hlt (placeI_has.2 h)
    have bx := May.bounds hX p; have byy := May.bounds hY p
    have nx := hX.n1; have ny := hY.n1
    refine hS.ldw 0 rfl rfl (hS.ldw 1 rfl rfl (hS.ldw 0 rfl rfl (hS.any fun W5 hS => hS.ldw 2 rfl rfl ?_)))
    refine hS.callv (refHigh_gives hX (hx.bel hS.bel) rfl p) fun W6 hS => AsI.mk ?_
    refine hS.stn 1 rfl rfl (hS.stn 0 rfl rfl ?_)
    refine hS.callv (refHigh_gives hY (hy.bel hS.bel) rfl p) fun W7 hS => AsI.mk ?_
    refine hS.ldw 0 rfl rfl (hS.ldw 1 rfl rfl (hS.ldw 0 rfl rfl (hS.any fun W8 hS => hS.ldw 2 rfl rfl ?_)))
    refine hS.callv (refLow_gives hX (hx.bel hS.bel) rfl p) fun W9 hS => AsI.mk ?_
    refine hS.stn 1 rfl rfl (hS.stn 0 rfl rfl ?_)
    refine hS.callv (refLow_gives hY (hy.bel hS.bel) rfl p) fun W10 hS => AsI.mk ?_
    refine hS.ldw 0 rfl rfl ?_
    rw [wrap_u64 (x := highS x p + highS y p) (by omega) (by omega), wrap_u64 (x := lowS x p + lowS y p) (by omega) (by omega), wrap_u64 (x := highS x p + highS y p - (lowS x p + lowS y p)) (by omega) (by omega)]
    refine ⟨⟨rfl, by decide, rfl, by decide, rfl, by decide, trivial⟩, ?_⟩
    refine CallK.mk (with_givesG (ho.bel hS.bel) rfl hco hlo (p, highS x p + highS y p, highS x p + highS y p - (lowS x p + lowS y p))) ?_
    rintro _ W11 ⟨⟨a11, c11, rfl, hs11, hown⟩, hb11⟩
    refine AsL.mk rfl ⟨.inr ?_, (hS.more hb11).bel⟩
    have e : addC x y o p = withC o (p, highS x p + highS y p, highS x p + highS y p - (lowS x p + lowS y p)) := by
      unfold addC; rw [if_neg (fun h => hnh (hasC_iff.1 h))]
    rw [e]
    have := hS.size
    exact ⟨a11, c11, rfl, hs11, fun g hg => by have := hown g hg; omega⟩)
theorem _root_.Go.Vc.Ow.addR {W0 W : World} {rs : List Res} {S : Nat → Prop} {x y : Sv} {a a' ao : Option Addr} {n c n' c' no co : Nat} {o : List Cnt} {kp : List PanicEntry → World → Prop} {k : Value → World → Prop} {p : Pfx} (h : Ow S W0 W (.sl 86 14 encN (.slice ao no co) o :: rs)) (hX : May x) (hY : May y) (hx : RdL W 14 encN a x.l) (hn : n = x.l.length) (hy : RdL W 14 encN a' y.l) (hn' : n' = y.l.length) (hlo : o.length ≤ 1000)
    (hk : ∀ a1 c1 W', Ow S W0 W' (.sl 86 14 encN (.slice a1 (addC x y o p).length c1) (addC x y o p) :: rs) → k (.slice a1 (addC x y o p).length c1) W') :
    CallK Try.prog 67 #[.slice ao no co, .agg (hdS x a n c).toArray, .agg (hdS y a' n' c').toArray, kv p] W kp k :=
  CallK.mk (add_gives hX hY hx hn hy hn' (h.rd 0 rfl) (h.len 0 rfl) (h.cap 0 rfl) hlo p) fun v W' hv => by
    obtain ⟨⟨e, rfl⟩ | ⟨a1, c1, rfl, hs, ho⟩, hb⟩ := hv
    · have e1 := h.len 0 rfl
      subst e1
      have := hk ao co W' (by rw [e]; exact h.more hb)
      rw [e] at this; exact this
    · refine hk a1 c1 W' ?_
      have h2 := h.newsl hb hs ho
      exact ⟨h2.fr, fun i r hi => by
        cases i with
        | zero => exact h2.ok 0 r hi
        | succ i => exact h2.ok (i + 2) r (by simpa using hi), fun i r b hi hf => by
        cases i with
        | zero => exact h2.lt 0 r b hi hf
        | succ i => exact h2.lt (i + 2) r b (by simpa using hi) hf, fun i j r r' b hi hj f1 f2 => by
        cases i with
        | zero =>
          cases j with
          | zero => rfl
          | succ j => have := h2.dis 0 (j + 2) r r' b hi (by simpa using hj) f1 f2; omega
        | succ i =>
          cases j with
          | zero => have := h2.dis (i + 2) 0 r r' b (by simpa using hi) hj f1 f2; omega
          | succ j => have := h2.dis (i + 2) (j + 2) r r' b (by simpa using hi) (by simpa using hj) f1 f2; omega⟩
theorem refMerge_gives {W : World} {x y : Sv} {a a' : Option Addr} {n c n' c' : Nat} (hwx : Wf x) (hwy : Wf y) (hx : RdL W 14 encN a x.l) (hn : n = x.l.length) (hy : RdL W 14 encN a' y.l) (hn' : n' = y.l.length) :
    Gives Try.prog 37 #[.agg (hdS x a n c).toArray, .agg (hdS y a' n' c').toArray] W fun v W' => MrgV W (mrg x y) v W' ∧ Below W.heap.size W W' := F37_fn (by
  unfold F37
  subst hn hn'
  have hS := Ow.start NoS W
  refine hS.new fun b2 W1 hS => hS.new fun b3 W2 hS => hS.new fun b4 W3 hS => ?_
  have fin : ∀ (e : Int) (W4 : World), mrg x y = (⟨0, 0, 0, []⟩, e) → Ow NoS W W4 [.cl b4 zL4 52, .cl b3 (hdS y a' y.l.length c') 52, .cl b2 (hdS x a x.l.length c) 52] →
      BldC [.int .i64 0, .int .u64 0, .int .u64 0, .slice none 0 0] [] fun cs15 => StV 4 W4 ⟨b4, 0, none⟩ (.agg cs15) fun W_6 => LdNC W_6 ⟨b4, 0, none⟩ 4 fun l4 =>
        (fun v W' => MrgV W (mrg x y) v W' ∧ Below W.heap.size W W') (.tuple #[.agg l4.toArray, .int .i64 e]) W_6 := by
    intro e W4 he hS
    rw [he]
    refine ⟨trivial, ?_⟩
    refine hS.stw 0 rfl (cs := [.int .i64 0, .int .u64 0, .int .u64 0, .slice none 0 0]) rfl rfl rfl fun W5 hS => hS.ldw 0 rfl rfl ?_
    exact ⟨⟨none, 0, rfl, SlR.nil _ _, fun g hg => by cases hg⟩, hS.bel⟩
  refine hS.ldw 2 rfl rfl ?_
  refine hS.call (refRight_gives hwx (hx.bel hS.bel) rfl) ?_
  rintro _ W4 ⟨r, rfl, hr⟩ hS
  refine AsB.mk (Join.use fun J hJ => ?_)
  have bad : ∀ W5, ¬ (May x ∧ May y) → Ow NoS W W5 [.cl b4 zL4 52, .cl b3 (hdS y a' y.l.length c') 52, .cl b2 (hdS x a x.l.length c) 52] → J true W5 := fun W5 h hS => by
    rw [hJ]
    refine If.pos rfl (fin 3 W5 ?_ hS)
    unfold mrg; rw [if_neg h]
  have good : ∀ W5, (May x ∧ May y) → Ow NoS W W5 [.cl b4 zL4 52, .cl b3 (hdS y a' y.l.length c') 52, .cl b2 (hdS x a x.l.length c) 52] → J false W5 := fun W5 h hS => by
    rw [hJ]
    obtain ⟨hX, hY⟩ := h
    have n0 := hX.n0; have n1 := hX.n1; have m0 := hY.n0; have m1 := hY.n1; have s0 := hX.s0; have sn := hX.sln; have u0 := hY.s0; have un := hY.sln
    have lx := May.l200 hX
    have ly := May.l200 hY
    have k1 := hX.k1
    refine If.neg rfl ?_
    refine hS.ld 2 rfl (u := .int .i64 x.k) rfl (AsI.mk ?_)
    refine hS.ld 1 rfl (u := .int .i64 y.k) rfl (AsI.mk ?_)
    refine If.bne (fun hk => fin 14 W5 (by unfold mrg; rw [if_pos ⟨hX, hY⟩, if_neg hk]) hS) fun hk => ?_
    refine hS.ldA 2 rfl (u := .int .u64 x.n) rfl (AsI.mk ?_)
    refine hS.ldA 1 rfl (u := .int .u64 y.n) rfl (AsI.mk ?_)
    rw [wrap_u64 (x := x.n + y.n) (by omega) (by omega)]
    refine If.dec (fun ho => fin 13 W5 (by unfold mrg; rw [if_pos ⟨hX, hY⟩, if_pos hk, if_pos (by omega)]) hS) fun ho => ?_
    have ho' : ¬ x.n > 4611686018427387904 - y.n := by have : ¬ x.n + y.n > 4611686018427387904 := ho; omega
    have hfl : ∀ (l o : List Cnt), (l.foldl (fun o c => addC x y o c.1) o).length ≤ o.length + l.length := by
      intro l
      induction l with
      | nil => intro o; simp
      | cons d l ih => intro o; rw [List.foldl_cons]; have := ih (addC x y o d.1); have := addC_len (x := x) (y := y) (o := o) d.1; simp only [List.length_cons]; omega
    refine Lp.of (fun s : (Option Addr × Nat × Nat) × Nat => [.slice s.1.1 s.1.2.1 s.1.2.2, .int .i64 (s.2 : Int)])
      (fun s W' => s.2 ≤ x.l.length ∧ Ow NoS W W' [.sl 86 14 encN (.slice s.1.1 s.1.2.1 s.1.2.2) ((x.l.take s.2).foldl (fun o c => addC x y o c.1) []), .cl b4 zL4 52, .cl b3 (hdS y a' y.l.length c') 52, .cl b2 (hdS x a x.l.length c) 52])
      (fun s => x.l.length - s.2) ((none, 0, 0), 0) rfl ⟨Nat.zero_le _, hS.nil 86 14 encN⟩ ?_
    rintro ⟨⟨a6, n6, c6⟩, i⟩ W6 kk ⟨hi, hS⟩ hkk
    dsimp only at hi hS hkk
    refine AsL.mk rfl (AsI.mk ?_)
    refine hS.ldA 3 rfl (u := .slice a x.l.length c) rfl (AsL.mk rfl ?_)
    refine If.dec (fun hlt => ?_) fun hge => ?_
    · have hlt' : i < x.l.length := by have : (i : Int) < (x.l.length : Int) := hlt; omega
      have htk : x.l.take (i + 1) = x.l.take i ++ [x.l[i]] := List.take_succ_eq_append_getElem hlt'
      have hx1 : x.l[i]? = some x.l[i] := List.getElem?_eq_getElem hlt'
      generalize x.l[i] = d at htk hx1
      have hlen := hfl (x.l.take i) []
      simp only [List.length_nil, List.length_take] at hlen
      refine hS.any fun W7 hS => hS.ldw 3 rfl rfl (hS.ldw 2 rfl rfl (hS.ldA 3 rfl (u := .slice a x.l.length c) rfl (AsL.mk rfl ?_)))
      obtain ⟨q, hq, hrow⟩ := (hx.bel hS.bel).row encN_len hx1
      rw [hq]
      refine IdxS.mk rfl hlt' ⟨encP d.1, rfl, row_take hrow 12, ?_⟩
      rw [← hq]
      refine hS.addR hX hY (hx.bel hS.bel) rfl (hy.bel hS.bel) rfl (by omega) fun a1 c1 W8 hS => AsL.mk rfl ?_
      rw [nsucc (by omega)]
      have e : addC x y ((x.l.take i).foldl (fun o c => addC x y o c.1) []) d.1 = (x.l.take (i + 1)).foldl (fun o c => addC x y o c.1) [] := by rw [htk, List.foldl_append]; rfl
      rw [e] at hS ⊢
      exact hkk ((a1, _, c1), i + 1) W8 ⟨hlt', hS⟩ (by dsimp only; omega)
    · have hge' : ¬ (i : Int) < (x.l.length : Int) := hge
      rw [List.take_of_length_le (by omega)] at hS
      clear hkk
      generalize ho1 : x.l.foldl (fun o c => addC x y o c.1) [] = o1 at hS
      have lo1 : o1.length ≤ x.l.length := by have := hfl x.l []; rw [ho1] at this; simpa using this
      refine Lp.of (fun s : (Option Addr × Nat × Nat) × Nat => [.slice s.1.1 s.1.2.1 s.1.2.2, .int .i64 (s.2 : Int)])
        (fun s W' => s.2 ≤ y.l.length ∧ Ow NoS W W' [.sl 86 14 encN (.slice s.1.1 s.1.2.1 s.1.2.2) ((y.l.take s.2).foldl (fun o c => addC x y o c.1) o1), .cl b4 zL4 52, .cl b3 (hdS y a' y.l.length c') 52, .cl b2 (hdS x a x.l.length c) 52])
        (fun s => y.l.length - s.2) ((a6, n6, c6), 0) rfl ⟨Nat.zero_le _, hS⟩ ?_
      clear hS
      rintro ⟨⟨a6, n6, c6⟩, i⟩ W7 kk ⟨hi, hS⟩ hkk
      dsimp only at hi hS hkk
      refine AsL.mk rfl (AsI.mk ?_)
      refine hS.ldA 2 rfl (u := .slice a' y.l.length c') rfl (AsL.mk rfl ?_)
      refine If.dec (fun hlt => ?_) fun hge => ?_
      · have hlt' : i < y.l.length := by have : (i : Int) < (y.l.length : Int) := hlt; omega
        have htk : y.l.take (i + 1) = y.l.take i ++ [y.l[i]] := List.take_succ_eq_append_getElem hlt'
        have hx1 : y.l[i]? = some y.l[i] := List.getElem?_eq_getElem hlt'
        generalize y.l[i] = d at htk hx1
        have hlen := hfl (y.l.take i) o1
        simp only [List.length_take] at hlen
        refine hS.any fun W8 hS => hS.ldw 3 rfl rfl (hS.ldw 2 rfl rfl (hS.ldA 2 rfl (u := .slice a' y.l.length c') rfl (AsL.mk rfl ?_)))
        obtain ⟨q, hq, hrow⟩ := (hy.bel hS.bel).row encN_len hx1
        rw [hq]
        refine IdxS.mk rfl hlt' ⟨encP d.1, rfl, row_take hrow 12, ?_⟩
        rw [← hq]
        refine hS.addR hX hY (hx.bel hS.bel) rfl (hy.bel hS.bel) rfl (by omega) fun a1 c1 W9 hS => AsL.mk rfl ?_
        rw [nsucc (by omega)]
        have e : addC x y ((y.l.take i).foldl (fun o c => addC x y o c.1) o1) d.1 = (y.l.take (i + 1)).foldl (fun o c => addC x y o c.1) o1 := by rw [htk, List.foldl_append]; rfl
        rw [e] at hS ⊢
        exact hkk ((a1, _, c1), i + 1) W9 ⟨hlt', hS⟩ (by dsimp only; omega)
      · have hge' : ¬ (i : Int) < (y.l.length : Int) := hge
        rw [List.take_of_length_le (by omega), ← ho1, fold_zip hX hY] at hS
        clear hkk
        have hn6 := hS.len 0 rfl
        subst hn6
        have hZ := near_zip hX hY hk ho'
        have hzl := zip_len x.sl y.sl x.l y.l
        have hzz : (zipS x y).l = zipL x.sl y.sl x.l y.l := rfl
        refine hS.ld 3 rfl (u := .int .i64 x.k) rfl (AsI.mk ?_)
        refine hS.ldA 3 rfl (u := .int .u64 x.n) rfl (AsI.mk ?_)
        refine hS.ldA 2 rfl (u := .int .u64 y.n) rfl (AsI.mk ?_)
        refine hS.ldA 3 rfl (u := .int .u64 x.sl) rfl (AsI.mk ?_)
        refine hS.ldA 2 rfl (u := .int .u64 y.sl) rfl (AsI.mk ?_)
        rw [wrap_u64 (x := x.n + y.n) (by omega) (by omega), wrap_u64 (x := x.sl + y.sl) (by omega) (by omega)]
        refine ⟨⟨rfl, by decide, rfl, by decide, rfl, by decide, rfl, by decide, trivial⟩, ?_⟩
        refine hS.new fun b9 W8 hS => ?_
        refine hS.stw 0 rfl (cs := hdS (zipS x y) a6 (zipS x y).l.length c6) rfl rfl rfl fun W9 hS => ?_
        refine hS.ld 0 rfl (u := .int .i64 x.k) rfl (AsI.mk ?_)
        refine Join.use fun J1 hJ1 => ?_
        have done : ∀ (z : Sv) (az : Option Addr) (cz : Nat) (W' : World) (rs : List Res), z = cutS (zipS x y) → Ow NoS W W' (.cl b9 (hdS z az z.l.length cz) 52 :: .sl 86 14 encN (.slice az z.l.length cz) z.l :: .cl b4 zL4 52 :: rs) → J1 W' := by
          intro z az cz W' rs hz hS
          rw [hJ1]
          refine hS.ldw 0 rfl rfl (hS.stw 2 rfl rfl rfl rfl fun W2 hS => hS.ldw 2 rfl rfl ?_)
          rw [mrg_ok hX hY hk ho', ← hz]
          obtain ⟨⟨a9, c9, e9, hs9, ho9⟩, hb9⟩ := hS.out 1 rfl
          cases e9
          exact ⟨⟨_, _, rfl, hs9, ho9⟩, hb9⟩
        refine If.dec (fun hlong => ?_) fun hshort => ?_
        · have hlong' : ((zipL x.sl y.sl x.l y.l).length : Int) > x.k := hlong
          have hcd : ∀ d ∈ zipL x.sl y.sl x.l y.l, 0 ≤ d.2.1 ∧ d.2.1 < 18446744073709551616 := fun d hd => by
            have h1 := hZ.each d hd
            have h2 := hZ.s0
            have h3 : d.2.1 - d.2.2 ≤ (zipS x y).n := by
              have h4 := sumC_le (f := fun c => c.2.1 - c.2.2) (l := (zipS x y).l) (fun c hc => by have := hZ.each c hc; omega) hd
              have := hZ.low; omega
            have h5 := hZ.n1
            have h6 : (zipS x y).sl = x.sl + y.sl := rfl
            omega
          refine hS.ld 0 rfl (u := .int .i64 x.k) rfl (AsI.mk ?_)
          refine hS.callv (rcut_gives (hS.rd 1 rfl) rfl (by omega) hcd (by omega) hlong') fun W10 hS => AsI.mk ?_
          have hcut : cutS (zipS x y) = { zipS x y with sl := kthC (zipL x.sl y.sl x.l y.l) x.k.toNat, l := (zipL x.sl y.sl x.l y.l).filter fun c => !decide (c.2.1 ≤ kthC (zipL x.sl y.sl x.l y.l) x.k.toNat) } := by
            unfold cutS; rw [if_neg (by rw [hzz]; show ¬ _ ≤ x.k; omega)]; rfl
          generalize kthC (zipL x.sl y.sl x.l y.l) x.k.toNat = s at hcut
          generalize hZl : zipL x.sl y.sl x.l y.l = Z at *
          refine hS.st1 0 rfl (hdS { zipS x y with sl := s } a6 Z.length c6) (by rw [hzz]; rfl) rfl rfl (show 2 < 4 by decide) fun W11 hS => ?_
          refine hS.st1 0 rfl (hdS ⟨x.k, x.n + y.n, s, []⟩ none 0 0) rfl rfl rfl (show 3 < 4 by decide) fun W12 hS => ?_
          have hS := (hS.nil 86 14 encN).pick [1, 0, 3, 2] (by decide) (rs' := [_, _, _, _]) rfl
          refine Lp.of (fun s : Nat × Option Addr × Nat => [.int .i64 (s.1 : Int)])
            (fun t W' => t.1 ≤ Z.length ∧ Ow NoS W W' [.cl b9 (hdS ⟨x.k, x.n + y.n, s, (Z.take t.1).filter fun c => !decide (c.2.1 ≤ s)⟩ t.2.1 ((Z.take t.1).filter fun c => !decide (c.2.1 ≤ s)).length t.2.2) 52, .sl 86 14 encN (.slice t.2.1 ((Z.take t.1).filter fun c => !decide (c.2.1 ≤ s)).length t.2.2) ((Z.take t.1).filter fun c => !decide (c.2.1 ≤ s)), .cl b4 zL4 52, .sl 86 14 encN (.slice a6 Z.length c6) Z])
            (fun t => Z.length - t.1) (0, none, 0) rfl ⟨Nat.zero_le _, hS⟩ ?_
          clear hS
          rintro ⟨j, aj, cj⟩ W13 kk ⟨hj, hS⟩ hkk
          dsimp only at hj hS hkk
          refine AsI.mk (If.dec (fun hlt => ?_) fun hge => ?_)
          · have hlt' : j < Z.length := by have : (j : Int) < (Z.length : Int) := hlt; omega
            have htk : Z.take (j + 1) = Z.take j ++ [Z[j]] := List.take_succ_eq_append_getElem hlt'
            have hx1 : Z[j]? = some Z[j] := List.getElem?_eq_getElem hlt'
            generalize Z[j] = d at htk hx1
            have hfj : ((Z.take j).filter fun c => !decide (c.2.1 ≤ s)).length ≤ j := Nat.le_trans (List.length_filter_le _ _) (by simp; omega)
            refine (hS.rd 3 rfl).get1 encN_len rfl rfl hx1 (c := 12) (u := .int .u64 d.2.1) rfl (AsI.mk ?_)
            refine hS.any fun W14 hS => ?_
            refine hS.ldA 0 rfl (u := .int .u64 s) rfl (AsI.mk ?_)
            refine Join.use fun J2 hJ2 => ?_
            refine If.dec (fun hgt => ?_) fun hle => ?_
            · have hgt' : d.2.1 > s := hgt
              have e : (Z.take (j + 1)).filter (fun c => !decide (c.2.1 ≤ s)) = (Z.take j).filter (fun c => !decide (c.2.1 ≤ s)) ++ [d] := by
                rw [htk, List.filter_append, List.filter_cons_of_pos (by simp; omega)]; rfl
              refine hS.ldA 0 rfl (u := .slice aj ((Z.take j).filter fun c => !decide (c.2.1 ≤ s)).length cj) rfl (AsL.mk rfl ?_)
              refine hS.any fun W15 hS => ?_
              refine (hS.rd 3 rfl).get encN_len rfl rfl hx1 ?_
              refine hS.news (cs := encN d) ⟨rfl, by decide, trivial⟩ (by kernel_rfl) fun b112 W16 hS => ?_
              refine hS.stlA 1 rfl rfl ?_
              refine hS.app1 elN 2 0 rfl rfl (by omega) fun a1 c1 W17 hS => AsL.mk rfl ?_
              refine hS.st1 1 rfl (hdS ⟨x.k, x.n + y.n, s, (Z.take j).filter (fun c => !decide (c.2.1 ≤ s)) ++ [d]⟩ a1 ((Z.take j).filter (fun c => !decide (c.2.1 ≤ s)) ++ [d]).length c1) rfl rfl rfl (show 3 < 4 by decide) fun W18 hS => ?_
              rw [hJ2, nsucc (by omega)]
              refine hkk (j + 1, a1, c1) W18 ⟨hlt', ?_⟩ (by dsimp only; omega)
              dsimp only
              rw [e]
              exact hS.pick [1, 2, 3, 4] (by decide) rfl
            · have hle' : ¬ d.2.1 > s := hle
              have e : (Z.take (j + 1)).filter (fun c => !decide (c.2.1 ≤ s)) = (Z.take j).filter (fun c => !decide (c.2.1 ≤ s)) := by
                rw [htk, List.filter_append, List.filter_cons_of_neg (by simp; omega), List.filter_nil, List.append_nil]
              rw [hJ2, nsucc (by omega)]
              refine hkk (j + 1, aj, cj) W14 ⟨hlt', ?_⟩ (by dsimp only; omega)
              dsimp only
              rw [e]
              exact hS
          · have hge' : ¬ (j : Int) < (Z.length : Int) := hge
            rw [List.take_of_length_le (by omega)] at hS
            exact done ⟨x.k, x.n + y.n, s, Z.filter fun c => !decide (c.2.1 ≤ s)⟩ aj cj W13 _ (by rw [hcut]; rfl) hS
        · have hshort' : ¬ ((zipL x.sl y.sl x.l y.l).length : Int) > x.k := hshort
          exact done (zipS x y) a6 c6 W9 _ (by unfold cutS; rw [if_pos (by show ((zipL x.sl y.sl x.l y.l).length : Int) ≤ x.k; omega)]) hS
  refine If.split (fun hr' => bad W4 (fun h => by rw [hr.2 h.1] at hr'; cases hr') hS) fun hr' => ?_
  have hX : May x := hr.1 (by simpa using hr')
  refine hS.ldw 1 rfl rfl ?_
  refine hS.call (refRight_gives hwy (hy.bel hS.bel) rfl) ?_
  rintro _ W5 ⟨r', rfl, hr2⟩ hS
  refine AsB.mk ?_
  cases r' with
  | true => exact good W5 ⟨hX, hr2.1 rfl⟩ hS
  | false => exact bad W5 (fun h => by have := hr2.2 h.2; cases this) hS)
end Go.Proofs.Ytcagnabglppenaa.Me
namespace Go.Proofs.Ytcagnabglppenaa.Me
open Go Go.RowKit Go.Vc Go.Proofs.Ytcagnabglppenaa.Fs Go.Proofs.Ytcagnabglppenaa.Px Go.Proofs.Ytcagnabglppenaa.Hq Go.Proofs.Ytcagnabglppenaa.Sv

/-- The tuple of a summary, whose counts can be read, and a number. -/
def RdV (z : Sv × Int) (v : Value) (W' : World) : Prop := ∃ a c, v = .tuple #[.agg (hdS z.1 a z.1.l.length c).toArray, .int .i64 z.2] ∧ RdL W' 14 encN a z.1.l
theorem refFold_gives {W : World} {L : List SvH} {a : Option Addr} {n c : Nat} (hr : RdL W 4 encH a L) (hn : n = L.length) (hl : L.length < 1099511627776) (hnest : ∀ h ∈ L, RdL W 14 encN h.2.1 h.1.l ∧ Wf h.1) :
    Gives Try.prog 41 #[.slice a n c] W fun v W' => RdV (foldS (L.map (·.1))) v W' ∧ Below W.heap.size W W' := F41_fn (by
  unfold F41
  subst hn
  have hS := Ow.start NoS W
  refine hS.new fun b2 W1 hS => ?_
  have zero : ∀ (e : Int) (W2 : World) (rs : List Res), foldS (L.map (·.1)) = (⟨0, 0, 0, []⟩, e) → Ow NoS W W2 (.cl b2 zL4 52 :: rs) →
      BldC [.int .i64 0, .int .u64 0, .int .u64 0, .slice none 0 0] [] fun cs => StV 4 W2 ⟨b2, 0, none⟩ (.agg cs) fun W_2 => LdNC W_2 ⟨b2, 0, none⟩ 4 fun l2 =>
        (fun v W' => RdV (foldS (L.map (·.1))) v W' ∧ Below W.heap.size W W') (.tuple #[.agg l2.toArray, .int .i64 e]) W_2 := by
    intro e W2 rs he hS
    rw [he]
    refine ⟨trivial, ?_⟩
    refine hS.stw 0 rfl (cs := zL4) rfl rfl rfl fun W3 hS => hS.ldw 0 rfl rfl ?_
    exact ⟨⟨none, 0, rfl, fun _ => rfl, fun q hq => by cases hq⟩, hS.bel⟩
  refine If.beq (fun h0 => ?_) fun h0 => ?_
  · refine zero 1 W1 [] ?_ hS
    have : L = [] := List.eq_nil_of_length_eq_zero (by omega)
    rw [this]; rfl
  obtain ⟨x0, L', hLL⟩ : ∃ x0 L', L = x0 :: L' := by
    cases L with
    | nil => exact absurd rfl h0
    | cons x l => exact ⟨x, l, rfl⟩
  have hfs : foldS (L.map (·.1)) = if ((L.map (·.1)).any notMay) = true then (⟨0, 0, 0, []⟩, 3) else foldM x0.1 (L'.map (·.1)) := by rw [hLL]; rfl
  refine Lp.of (fun s : Nat => [.int .i64 0, .int .i64 (s : Int)]) (fun j W' => j ≤ L.length ∧ (∀ (i : Nat) (h : SvH), i < j → L[i]? = some h → May h.1) ∧ Ow NoS W W' [.cl b2 zL4 52]) (fun j => L.length - j) 0 rfl ⟨Nat.zero_le _, fun i h hi => by omega, hS⟩ ?_
  clear hS
  rintro j W2 kk ⟨hj, hall, hS⟩ hkk
  refine AsI.mk (AsI.mk (If.dec (fun hlt => ?_) fun hge => ?_))
  · have hlt' : j < L.length := by have : (j : Int) < (L.length : Int) := hlt; omega
    have hx : L[j]? = some L[j] := List.getElem?_eq_getElem hlt'
    have hmem : L[j] ∈ L := List.getElem_mem hlt'
    generalize L[j] = y at hx hmem
    refine (hr.bel hS.bel).get encH_len rfl rfl hx ?_
    refine hS.call (refRight_gives (hnest y hmem).2 ((hnest y hmem).1.bel hS.bel) rfl) ?_
    rintro _ W3 ⟨r, rfl, hrr⟩ hS
    refine AsB.mk ?_
    cases r with
    | false =>
      refine If.pos rfl (zero 3 W3 [] ?_ hS)
      rw [hfs, if_pos]
      refine List.any_eq_true.2 ⟨y.1, List.mem_map.2 ⟨y, hmem, rfl⟩, notMay_true.2 fun h => ?_⟩
      have := hrr.2 h; cases this
    | true =>
      refine If.neg rfl ?_
      rw [nsucc (by omega)]
      refine hkk (j + 1) W3 ⟨hlt', fun i h hi hh => ?_, hS⟩ (by omega)
      rcases Nat.lt_or_ge i j with h1 | h1
      · exact hall i h h1 hh
      · have : i = j := by omega
        subst this; rw [hx] at hh; cases hh; exact hrr.1 rfl
  · have hge' : ¬ (j : Int) < (L.length : Int) := hge
    clear hkk
    have hmay : ∀ h ∈ L, May h.1 := fun h hh => by
      obtain ⟨i, hi⟩ := List.getElem?_of_mem hh
      exact hall i h (by have := (List.getElem?_eq_some_iff.1 hi).1; omega) hi
    have hfold : foldS (L.map (·.1)) = foldM x0.1 (L'.map (·.1)) := by
      rw [hfs, if_neg]
      intro h
      obtain ⟨x, hx, hn⟩ := List.any_eq_true.1 h
      obtain ⟨y, hy, rfl⟩ := List.mem_map.1 hx
      exact notMay_true.1 hn (hmay y hy)
    have hlen : L.length = L'.length + 1 := by rw [hLL]; rfl
    have hx0 : L[0]? = some x0 := by rw [hLL]; rfl
    have hm0 : x0 ∈ L := List.mem_of_getElem? hx0
    have n0 := hnest x0 hm0
    refine (hr.bel hS.bel).get encH_len rfl (j := 0) rfl hx0 ?_
    refine hS.new fun b5 W3 hS => hS.stw 0 rfl rfl rfl rfl fun W4 hS => ?_
    have hS := hS.take Res.no trivial (fun b hb => hb.elim) (fun i r' b _ _ h => h)
    refine Lp.of (fun s : Nat × Sv × Int × (Option Addr × Nat) × Res => [.int .i64 s.2.2.1, .int .i64 (s.1 : Int)])
      (fun s W' => 1 ≤ s.1 ∧ s.1 ≤ L.length ∧ Wf s.2.1 ∧ (s.2.2.1 = 0 → foldM x0.1 (L'.map (·.1)) = foldM s.2.1 ((L'.drop (s.1 - 1)).map (·.1))) ∧ (s.2.2.1 ≠ 0 → foldM x0.1 (L'.map (·.1)) = (s.2.1, s.2.2.1)) ∧
        (∀ W'', Below W.heap.size W W'' → s.2.2.2.2.ok W'' → RdL W'' 14 encN s.2.2.2.1.1 s.2.1.l) ∧
        Ow NoS W W' [s.2.2.2.2, .cl b5 (hdS s.2.1 s.2.2.2.1.1 s.2.1.l.length s.2.2.2.1.2) 52, .cl b2 zL4 52])
      (fun s => L.length - s.1) (1, x0.1, 0, (x0.2.1, x0.2.2), Res.no) rfl ⟨Nat.le_refl _, by dsimp only; omega, n0.2, fun _ => rfl, fun h => absurd rfl h, fun W'' hb _ => n0.1.bel hb, hS⟩ ?_
    clear hS
    rintro ⟨i, x, e, ⟨ax, cx⟩, rr⟩ W5 kk ⟨hi1, hi, hwf, he0, he1, hrd, hS⟩ hkk
    dsimp only at hi1 hi hwf he0 he1 hrd hS hkk
    refine AsI.mk (AsI.mk ?_)
    refine Join.use fun J hJ => ?_
    have out : foldM x0.1 (L'.map (·.1)) = (x, e) → J false W5 := fun h => by
      rw [hJ]
      refine If.neg rfl ?_
      refine hS.ldw 1 rfl rfl (hS.stw 2 rfl rfl rfl rfl fun W6 hS => hS.ldw 2 rfl rfl ?_)
      rw [hfold, h]
      exact ⟨⟨ax, cx, rfl, hrd W6 hS.bel (hS.get 0 rfl)⟩, hS.bel⟩
    refine If.dec (fun hlt => ?_) fun hge => ?_
    · have hlt' : i < L.length := by have : (i : Int) < (L.length : Int) := hlt; omega
      by_cases e0 : e = 0
      · subst e0
        rw [hJ]
        refine If.pos rfl (hS.any fun W6 hS => hS.ldw 1 rfl rfl ?_)
        have hx : L[i]? = some L[i] := List.getElem?_eq_getElem hlt'
        have hmem : L[i] ∈ L := List.getElem_mem hlt'
        have hdr : L'.drop (i - 1) = L[i] :: L'.drop (i + 1 - 1) := by
          have h1 : i - 1 < L'.length := by omega
          rw [List.drop_eq_getElem_cons h1]
          have h2 : L[i] = L'[i - 1] := by
            have : L[i]? = L'[i - 1]? := by
              rw [hLL]
              obtain ⟨m, rfl⟩ : ∃ m, i = m + 1 := ⟨i - 1, by omega⟩
              simp
            rw [hx, List.getElem?_eq_getElem h1] at this
            exact Option.some.inj this
          rw [h2, show i - 1 + 1 = i + 1 - 1 by omega]
        generalize L[i] = y at hx hmem hdr
        refine (hr.bel hS.bel).get encH_len rfl rfl hx ?_
        refine CallK.mk (refMerge_gives hwf (hnest y hmem).2 (hrd W6 hS.bel (hS.get 0 rfl)) rfl ((hnest y hmem).1.bel hS.bel) rfl) ?_
        rintro _ W7 ⟨⟨az, cz, rfl, hsz, hoz⟩, hb7⟩
        refine AsT2.mk (AsI.mk ?_)
        have hS := hS.newsl hb7 hsz hoz
        refine hS.stw 2 rfl rfl rfl rfl fun W8 hS => ?_
        rw [nsucc (by omega)]
        have hf := he0 rfl
        rw [hdr, List.map_cons, foldM] at hf
        refine hkk (i + 1, (mrg x y.1).1, (mrg x y.1).2, (az, cz), .sl 86 14 encN (.slice az (mrg x y.1).1.l.length cz) (mrg x y.1).1.l) W8 ⟨by dsimp only; omega, hlt', mrg_wf, fun h => ?_, fun h => ?_, fun W'' _ hok => SlR.rd hok, hS.pick [0, 2, 3] (by decide) rfl⟩ (by dsimp only; omega)
        · dsimp only at h ⊢; rw [hf, if_pos h]
        · dsimp only at h ⊢; rw [hf, if_neg h, mrg_not h]
      · have : (e == 0) = false := by simpa using e0
        rw [this]
        exact out (he1 e0)
    · have hge' : ¬ (i : Int) < (L.length : Int) := hge
      refine out ?_
      by_cases e0 : e = 0
      · subst e0
        rw [he0 rfl, List.drop_of_length_le (by omega)]; rfl
      · exact he1 e0)
theorem tells_law' {W : World} {x y : Sv} {a a' : Option Addr} {n c n' c' : Nat} (hwx : Wf x) (hwy : Wf y) (hx : RdL W 14 encN a x.l) (hn : n = x.l.length) (hy : RdL W 14 encN a' y.l) (hn' : n' = y.l.length) :
    Gives Try.prog 7 #[.agg (hdS x a n c).toArray, .agg (hdS y a' n' c').toArray] W fun v W' => v = .bool true ∧ Below W.heap.size W W' := F7_fn (by
  unfold F7
  subst hn hn'
  have hS := Ow.start NoS W
  refine hS.new fun b2 W1 hS => hS.new fun b3 W2 hS => hS.ldw 1 rfl rfl (hS.ldw 0 rfl rfl ?_)
  refine hS.callMrg (merge_gives hwx hwy (hx.bel hS.bel) rfl (hy.bel hS.bel) rfl) (x := (mrg x y).1) (e := (mrg x y).2) rfl fun a12 c12 W3 hS => AsT2.mk (AsI.mk ?_)
  refine hS.new fun b5 W4 hS => hS.stw 0 rfl rfl rfl rfl fun W5 hS => ?_
  refine hS.ldw 3 rfl rfl (hS.ldw 2 rfl rfl ?_)
  refine hS.callMrg (refMerge_gives hwx hwy (hx.bel hS.bel) rfl (hy.bel hS.bel) rfl) (x := (mrg x y).1) (e := (mrg x y).2) rfl fun a18 c18 W6 hS => AsT2.mk (AsI.mk ?_)
  refine hS.new fun b7 W7 hS => hS.stw 0 rfl rfl rfl rfl fun W8 hS => ?_
  refine hS.callv aliveM_gives fun W9 hS => AsB.mk ?_
  refine Join.use fun J hJ => If.pos rfl ?_
  have : ((mrg x y).2 == (mrg x y).2) = true := by simp
  rw [this, hJ]; clear hJ
  refine Join.use fun J hJ => If.pos rfl ?_
  refine hS.ldw 2 rfl rfl (hS.ldw 0 rfl rfl ?_)
  have hlz := mrg_len x y
  have hwz : ∀ c ∈ (mrg x y).1.l, WfN c := mrg_wf.l
  refine hS.call (same_gives (x := (mrg x y).1) (y := (mrg x y).1) hwz hwz (hS.rd 3 rfl) rfl (hS.rd 1 rfl) rfl (by omega)) ?_
  rintro _ W10 ⟨r, rfl, hr⟩ hS
  obtain rfl : r = true := hr.2 rfl
  refine AsB.mk ?_
  rw [hJ]
  exact ⟨rfl, hS.bel⟩)
theorem foldM_ok : ∀ (l : List Sv) (x : Sv), May x → Wf (foldM x l).1 ∧ (foldM x l).1.l.length ≤ 200
  | [], x, h => ⟨h.wf, May.l200 h⟩
  | y :: l, x, h => by
    rw [foldM]
    split
    · rename_i he; exact foldM_ok l _ (mrg_may he).1
    · have z : Wf ⟨0, 0, 0, []⟩ := ⟨by decide, by decide, by decide, fun c hc => by cases hc⟩
      exact ⟨z, by simp⟩
theorem foldS_ok (l : List Sv) : Wf (foldS l).1 ∧ (foldS l).1.l.length ≤ 200 := by
  have z : Wf ⟨0, 0, 0, []⟩ := ⟨by decide, by decide, by decide, fun c hc => by cases hc⟩
  cases l with
  | nil => exact ⟨z, by simp [foldS]⟩
  | cons x l =>
    rw [foldS]
    split
    · exact ⟨z, by simp⟩
    · rename_i h
      refine foldM_ok l x (Classical.byContradiction fun hm => h ?_)
      exact List.any_eq_true.2 ⟨x, List.mem_cons_self, notMay_true.2 hm⟩
instance : Inhabited SvH := ⟨(⟨0, 0, 0, []⟩, none, 0)⟩
theorem folds_law {W : World} {L : List SvH} {a : Option Addr} {n c : Nat} (hr : RdL W 4 encH a L) (hn : n = L.length) (hc : L.length ≤ c) (hnest : ∀ h ∈ L, RdL W 14 encN h.2.1 h.1.l ∧ Wf h.1) :
    Gives Try.prog 8 #[.slice a n c] W fun v W' => v = .bool true ∧ Below W.heap.size W W' := F8_fn (by
  unfold F8
  subst hn
  have hS := Ow.start NoS W
  refine If.dec (fun _ => hS.callv aliveM_gives fun W1 hS => AsB.mk ⟨rfl, hS.bel⟩) fun hlt => ?_
  have hl : ¬ (L.length : Int) > 300 := hlt
  refine hS.callMrg (fold_gives hr rfl hc (by omega) hnest) (x := (foldS (L.map (·.1))).1) (e := (foldS (L.map (·.1))).2) rfl fun a13 c13 W2 hS => AsT2.mk (AsI.mk ?_)
  refine hS.new fun b3 W3 hS => hS.stw 0 rfl rfl rfl rfl fun W4 hS => ?_
  refine hS.call (refFold_gives (hr.bel hS.bel) rfl (by omega) fun h hh => ⟨(hnest h hh).1.bel hS.bel, (hnest h hh).2⟩) ?_
  rintro _ W5 ⟨a18, c18, rfl, hrd⟩ hS
  obtain ⟨hwz, hlz⟩ := foldS_ok (L.map (·.1))
  generalize foldS (L.map (·.1)) = z at *
  refine AsT2.mk (AsI.mk ?_)
  have hloc : ∀ b T, Fr T W5 b → (∀ q, a18 = some q → q.block < W5.heap.size → ¬ T q.block) → RdL b 14 encN a18 z.1.l := fun b T hf hq => hrd.fr hf hq
  have hb5 : ∀ W', Below W5.heap.size W5 W' → RdL W' 14 encN a18 z.1.l := fun W' hb => hrd.bel hb
  have hS5 := hS
  refine NewA.mk fun b5 W6 h5 hb5e hsz6 hbl6 => ?_
  refine StV.to h5 (v := .agg (hdS z.1 a18 z.1.l.length c18).toArray) rfl (by decide) rfl (cs := (hdS z.1 a18 z.1.l.length c18).toArray) rfl fun W7 h57 hsz7 hf7 => ?_
  have hb7 : Below W5.heap.size W5 W7 := by
    have : Fr (fun q => W5.heap.size ≤ q) W5 W7 := (frOf hbl6).trans' hf7 fun q hq _ => by omega
    exact this.bel
  have hS := hS.push hb7 (.cl b5 (hdS z.1 a18 z.1.l.length c18) 52) h57 fun b hb => by
    cases hb; exact ⟨by omega, heap_lt h57⟩
  have hrd7 := hrd.bel hb7
  refine CallK.mk aliveM_gives ?_
  rintro _ W8 ⟨rfl, hb8⟩
  have hS := hS.more hb8
  have hrd8 := hrd7.bel hb8
  refine AsB.mk (Join.use fun J hJ => If.pos rfl ?_)
  have : (z.2 == z.2) = true := by simp
  rw [this, hJ]; clear hJ
  refine Join.use fun J hJ => If.pos rfl ?_
  refine hS.ldw 1 rfl rfl (hS.ldw 0 rfl rfl ?_)
  refine hS.call (same_gives (x := z.1) (y := z.1) hwz.l hwz.l (hS.rd 2 rfl) rfl hrd8 rfl (by omega)) ?_
  rintro _ W9 ⟨r, rfl, hrr⟩ hS
  obtain rfl : r = true := hrr.2 rfl
  refine AsB.mk ?_
  rw [hJ]
  exact ⟨rfl, hS.bel⟩)
end Go.Proofs.Ytcagnabglppenaa.Me
