/- The reference's Insert, Low, High; SavingTells. -/
import Derived.Test.YtcagnabglppenaaWm
import Derived.Test.YtcagnabglppenaaPvm
namespace Go.Proofs.Ytcagnabglppenaa.Sv
open Go Go.RowKit Go.Vc Go.Proofs.Ytcagnabglppenaa.Fs Go.Proofs.Ytcagnabglppenaa.Px Go.Proofs.Ytcagnabglppenaa.Hq

theorem ins_over {x : Sv} {p : Pfx} {w : Int} (h : w > 4611686018427387904 - x.n) : ins x p w = (x, 13) := by unfold ins; rw [if_pos h]
theorem ins_zero {x : Sv} {p : Pfx} {w : Int} (h : ¬ w > 4611686018427387904 - x.n) (h0 : w = 0) : ins x p w = (x, 0) := by unfold ins; rw [if_neg h, if_pos h0]
theorem ins_more {x : Sv} {p : Pfx} {w : Int} (h : ¬ w > 4611686018427387904 - x.n) (h0 : w ≠ 0) {i : Nat} {c : Cnt} (hp : placeC x.l p = some i) (hc : x.l[i]? = some c) :
    ins x p w = ({ x with n := x.n + w, l := withC (x.l.eraseIdx i) (c.1, c.2.1 + w, c.2.2) }, 0) := by unfold ins; rw [if_neg h, if_neg h0, hp]; simp only; rw [hc]
theorem ins_evict {x : Sv} {p : Pfx} {w : Int} (h : ¬ w > 4611686018427387904 - x.n) (h0 : w ≠ 0) (hp : placeC x.l p = none) (hk : (x.l.length : Int) = x.k) {c : Cnt} (hc : x.l[firstC x.l (x.l.length - 1)]? = some c) :
    ins x p w = ({ x with n := x.n + w, sl := c.2.1, l := withC (x.l.eraseIdx (firstC x.l (x.l.length - 1))) (p, c.2.1 + w, c.2.1) }, 0) := by unfold ins; rw [if_neg h, if_neg h0, hp]; simp only; rw [if_pos hk, hc]
theorem ins_new {x : Sv} {p : Pfx} {w : Int} (h : ¬ w > 4611686018427387904 - x.n) (h0 : w ≠ 0) (hp : placeC x.l p = none) (hk : (x.l.length : Int) ≠ x.k) :
    ins x p w = ({ x with n := x.n + w, l := withC x.l (p, x.sl + w, x.sl) }, 0) := by unfold ins; rw [if_neg h, if_neg h0, hp]; simp only; rw [if_neg hk]
theorem slr_loc {W : World} {a : Option Addr} {n c : Nat} {l : List Cnt} (hs : SlR W 86 14 encN (.slice a n c) l) : ∀ q, a = some q → (Value.slice a n c).ownBlock = some q.block ∧ q.block < W.heap.size := by
  intro q hq
  subst hq
  rcases hs.2 with ⟨h, _⟩ | ⟨g, cap, cur, h, _⟩
  · cases h
  · cases h; exact ⟨rfl, hs.lt rfl⟩
theorem refIns_gives {W : World} {x : Sv} (hM : May x) {a : Option Addr} {n c : Nat} (hr : RdL W 14 encN a x.l) (hn : n = x.l.length) (hc : x.l.length ≤ c) (p : Pfx) (w : Int) (hw : 0 ≤ w ∧ w < 18446744073709551616) :
    Gives Try.prog 48 #[.agg (hdS x a n c).toArray, kv p, .int .u64 w] W fun v W' => (∃ a' c', v = .tuple #[.agg (hdS (ins x p w).1 a' (ins x p w).1.l.length c').toArray, .int .i64 (ins x p w).2] ∧ RdL W' 14 encN a' (ins x p w).1.l ∧ (ins x p w).1.l.length ≤ c' ∧ ∀ q, a' = some q → (a = some q ∧ (ins x p w).1.l = x.l) ∨ (W.heap.size ≤ q.block ∧ q.block < W'.heap.size)) ∧ Below W.heap.size W W' := F48_fn (by
  unfold F48
  subst hn
  refine NewA.mk fun b3 W1 h3 hb3 hsz1 hbl1 => NewA.mk fun b4 W2 h4 hb4 hsz2 hbl2 => NewA.mk fun b6 W3 h6 hb6 hsz3 hbl3 => ?_
  have hB2 := hbl1.trans (hbl2.mono hbl1.size)
  have hB3 : Below W.heap.size W W3 := hB2.trans (hbl3.mono hB2.size)
  have h33 := belowAt hbl3 (belowAt hbl2 h3)
  have h43 := belowAt hbl3 h4
  have n0 := hM.n0; have n1 := hM.n1; have s0 := hM.s0; have sn := hM.sln
  have hlen : x.l.length ≤ 200 := by have := hM.len; have := hM.k2; omega
  have fin : ∀ (y : Sv) (e : Int) (a' : Option Addr) (c' : Nat) (W' : World), ins x p w = (y, e) → W'.heap[b3]? = some (.cells (hdS y a' y.l.length c').toArray 52 (0, 0)) → W'.heap[b6]? = some (.cells zS 52 (0, 0)) → RdL W' 14 encN a' y.l → y.l.length ≤ c' → Fr (fun q => W.heap.size ≤ q) W W' →
      (∀ W'', Fr (fun q => q = b6) W' W'' → RdL W'' 14 encN a' y.l) → (∀ q, a' = some q → (a = some q ∧ y.l = x.l) ∨ (W.heap.size ≤ q.block ∧ q.block < W'.heap.size)) →
      LdNC W' ⟨b3, 0, none⟩ 4 fun l => StV 4 W' ⟨b6, 0, none⟩ (.agg l.toArray) fun W'' => LdNC W'' ⟨b6, 0, none⟩ 4 fun l6 =>
        (fun v W' => (∃ a' c', v = Value.tuple #[.agg (hdS (ins x p w).1 a' (ins x p w).1.l.length c').toArray, .int .i64 (ins x p w).2] ∧ RdL W' 14 encN a' (ins x p w).1.l ∧ (ins x p w).1.l.length ≤ c' ∧ ∀ q, a' = some q → (a = some q ∧ (ins x p w).1.l = x.l) ∨ (W.heap.size ≤ q.block ∧ q.block < W'.heap.size)) ∧ Below W.heap.size W W') (.tuple #[.agg l6.toArray, .int .i64 e]) W'' := by
    intro y e a' c' W' hi h3' h6' hrd hcap hf hst hloc
    rw [hi]
    refine LdNC.mk h3' (cs := hdS y a' y.l.length c') rfl rfl ?_
    refine StV.to h6' (v := .agg (hdS y a' y.l.length c').toArray) rfl (by decide) rfl (cs := (hdS y a' y.l.length c').toArray) rfl fun W'' h6'' hsz hf6 => ?_
    refine LdNC.mk h6'' (cs := hdS y a' y.l.length c') rfl rfl ?_
    exact ⟨⟨a', c', rfl, hst W'' hf6, hcap, fun q hq => (hloc q hq).imp id fun h => ⟨h.1, Nat.lt_of_lt_of_le h.2 hf6.size⟩⟩, (hf.trans' hf6 fun q hq _ => by omega).bel⟩
  have hrst : ∀ W', Fr (fun q => W.heap.size ≤ q) W W' → ∀ W'', Fr (fun q => q = b6) W' W'' → RdL W'' 14 encN a x.l := fun W' hf W'' hf6 => hr.bel (hf.trans' hf6 fun q hq _ => by omega).bel
  have f03 : Fr (fun q => W.heap.size ≤ q) W W3 := frOf hB3
  refine Ld1.ad h33 (u := .int .u64 x.n) rfl ⟨_, rfl, ?_⟩
  dsimp only
  rw [wrap_u64 (x := 4611686018427387904 - x.n) (by omega) (by omega)]
  refine If.dec (fun hov => fin x 13 a c W3 (ins_over hov) h33 h6 (hr.bel hB3) hc f03 (hrst W3 f03) fun q hq => .inl ⟨hq, rfl⟩) fun hok => ?_
  refine If.beq (fun hz => fin x 0 a c W3 (ins_zero hok hz) h33 h6 (hr.bel hB3) hc f03 (hrst W3 f03) fun q hq => .inl ⟨hq, rfl⟩) fun hnz => ?_
  refine Ld1.ad h33 (u := .int .u64 x.n) rfl ⟨_, rfl, ?_⟩
  dsimp only
  rw [wrap_u64 (x := x.n + w) (by omega) (by omega)]
  refine StV.ad1 h33 (v := .int .u64 (x.n + w)) rfl (show 0 + 1 < 4 by decide) rfl fun W4 h34 hsz4 hf4 => ?_
  have f04 : Fr (fun q => W.heap.size ≤ q) W W4 := f03.trans' hf4 fun q hq _ => by omega
  have h44 := hf4.at (by omega) h43
  have h64 := hf4.at (by omega) h6
  have z3 := hB3.size
  refine Ld1.ad h34 (u := .slice a x.l.length c) rfl ⟨_, _, _, rfl, ?_⟩
  refine LdNC.mk h44 (cs := encP p) rfl rfl ?_
  refine CallK.mk (place_gives (hr.bel f04.bel) rfl (by omega) p) ?_
  rintro _ W5 ⟨rfl, hb5⟩
  have f05 := f04.trans (frOf (S := fun q => W.heap.size ≤ q) hb5)
  have h35 := belowAt hb5 h34
  have h45 := belowAt hb5 h44
  have h65 := belowAt hb5 h64
  have z5 := hb5.size
  have b3lt := heap_lt h34
  have b4lt := heap_lt h44
  have b6lt := heap_lt h64
  refine ⟨_, rfl, ?_⟩
  unfold placeI
  cases hp : placeC x.l p with
  | some i =>
    obtain ⟨d, hd, hdp⟩ := placeC_some hp
    have hdm := List.mem_of_getElem? hd
    have hde := hM.each d hdm
    have hdn := hM.le hdm
    refine If.pos (decide_eq_true (by simp only; omega)) ?_
    refine Ld1.ad h35 (u := .slice a x.l.length c) rfl ⟨_, _, _, rfl, ?_⟩
    refine (hr.bel f05.bel).get encN_len rfl rfl hd ?_
    refine NewA.mk fun b9 W6 h9 hb9 hsz6 hbl6 => ?_
    refine StV.to h9 (v := .agg (encN d).toArray) rfl (by decide) rfl (cs := (encN d).toArray) rfl fun W7 h97 hsz7 hf7 => ?_
    refine Ld1.ad h97 (u := .int .u64 d.2.1) rfl ⟨_, rfl, ?_⟩
    dsimp only
    rw [wrap_u64 (x := d.2.1 + w) (by omega) (by omega)]
    refine StV.ad1 h97 (v := .int .u64 (d.2.1 + w)) rfl (show 0 + 12 < 14 by decide) rfl fun W8 h98 hsz8 hf8 => ?_
    have f58 : Fr (fun q => q = b9) W5 W8 := ((frOf hbl6).trans hf7).trans hf8
    have f08 : Fr (fun q => W.heap.size ≤ q) W W8 := f05.trans' f58 fun q hq _ => by omega
    have h98' : W8.heap[b9]? = some (.cells (encN (d.1, d.2.1 + w, d.2.2)).toArray 86 (0, 0)) := h98
    refine LdNC.mk h98' (cs := encN (d.1, d.2.1 + w, d.2.2)) rfl rfl ?_
    intro W9 hb9'
    have f09 := f08.trans (frOf (S := fun q => W.heap.size ≤ q) hb9')
    have h39 := belowAt hb9' (f58.at (by omega) h35)
    refine Ld1.ad h39 (u := .slice a x.l.length c) rfl ⟨_, _, _, rfl, ?_⟩
    refine CallK.mk (without_gives (hr.bel f09.bel) rfl hlen i) ?_
    rintro _ W10 ⟨⟨a10, c10, rfl, hs10, _⟩, hb10⟩
    refine ⟨_, _, _, rfl, ?_⟩
    refine StN.mk (belowAt hb10 (belowAt hb9' h98')) (cs := (encN (d.1, d.2.1 + w, d.2.2)).toArray) rfl rfl ?_
    have hel := List.length_eraseIdx_le x.l i
    refine CallK.mk (with_gives hs10.rd rfl hs10.cap (by omega) (d.1, d.2.1 + w, d.2.2)) ?_
    rintro _ W11 ⟨⟨a11, c11, rfl, hs11, hown11⟩, hb11⟩
    refine ⟨_, _, _, rfl, ?_⟩
    have b911 := hb10.trans (hb11.mono hb10.size)
    have z10 := hb10.size; have z9 := hb9'.size; have z58 := f58.size
    refine StV.ad1 (belowAt b911 h39) (v := .slice a11 (withC (x.l.eraseIdx i) (d.1, d.2.1 + w, d.2.2)).length c11) rfl (show 0 + 3 < 4 by decide) rfl fun W12 h312 hsz12 hf12 => ?_
    have h612 := hf12.at (by omega) (belowAt b911 (belowAt hb9' (f58.at (by omega) h65)))
    have hs12 := hs11.fr hf12 fun g hg e => by have := hown11 g hg; omega
    refine fin _ 0 a11 c11 W12 (ins_more hok hnz hp hd) h312 h612 hs12.rd hs12.cap ((f09.trans (frOf b911)).trans' hf12 fun q hq _ => by omega) (fun W' hf' => (hs12.fr hf' fun g hg e => by have := hown11 g hg; omega).rd) fun q hq => .inr ⟨by have := hown11 _ (slr_loc hs12 q hq).1; omega, (slr_loc hs12 q hq).2⟩
  | none =>
    refine If.neg (decide_eq_false (by simp only; omega)) ?_
    refine Ld1.ad h35 (u := .slice a x.l.length c) rfl ⟨_, _, _, rfl, ?_⟩
    refine Ld1.mk h35 (u := .int .i64 x.k) rfl ⟨_, rfl, Join.use fun J hJ => ?_⟩
    have tail : ∀ (l' : List Cnt) (sl' : Int) (a' : Option Addr) (c' : Nat) (W' : World), W'.heap[b3]? = some (.cells (hdS { x with n := x.n + w, sl := sl', l := l' } a' l'.length c').toArray 52 (0, 0)) → W'.heap[b4]? = some (.cells (encP p).toArray 65 (0, 0)) → W'.heap[b6]? = some (.cells zS 52 (0, 0)) →
        RdL W' 14 encN a' l' → l'.length ≤ c' → l'.length ≤ 200 → 0 ≤ sl' → sl' + w < 18446744073709551616 → Fr (fun q => W.heap.size ≤ q) W W' → ins x p w = ({ x with n := x.n + w, sl := sl', l := withC l' (p, sl' + w, sl') }, 0) → J W' := by
      intro l' sl' a' c' W' h3' h4' h6' hrd hcap hl' hs1 hs2 hf hi
      rw [hJ]
      refine Ld1.ad h3' (u := .slice a' l'.length c') rfl ⟨_, _, _, rfl, ?_⟩
      refine LdNC.mk h4' (cs := encP p) rfl rfl ?_
      refine Ld1.ad h3' (u := .int .u64 sl') rfl ⟨_, rfl, ?_⟩
      refine Ld1.ad h3' (u := .int .u64 sl') rfl ⟨_, rfl, ?_⟩
      dsimp only
      rw [wrap_u64 (x := sl' + w) (by omega) hs2]
      refine ⟨⟨rfl, by decide, rfl, by decide, rfl, by decide, trivial⟩, ?_⟩
      refine CallK.mk (with_gives hrd rfl hcap hl' (p, sl' + w, sl')) ?_
      rintro _ W11 ⟨⟨a11, c11, rfl, hs11, hown11⟩, hb11⟩
      refine ⟨_, _, _, rfl, ?_⟩
      have b3lt' := heap_lt h3'
      have b6lt' := heap_lt h6'
      refine StV.ad1 (belowAt hb11 h3') (v := .slice a11 (withC l' (p, sl' + w, sl')).length c11) rfl (show 0 + 3 < 4 by decide) rfl fun W12 h312 hsz12 hf12 => ?_
      have h612 := hf12.at (by omega) (belowAt hb11 h6')
      have hs12 := hs11.fr hf12 fun g hg e => by have := hown11 g hg; omega
      exact fin _ 0 a11 c11 W12 hi h312 h612 hs12.rd hs12.cap ((hf.trans (frOf hb11)).trans' hf12 fun q hq _ => by omega) (fun W' hf' => (hs12.fr hf' fun g hg e => by have := hown11 g hg; omega).rd) fun q hq => .inr ⟨by have := hown11 _ (slr_loc hs12 q hq).1; have := hf.size; omega, (slr_loc hs12 q hq).2⟩
    refine If.beq (fun hfull => ?_) fun hroom => ?_
    · have hfull' : (x.l.length : Int) = x.k := hfull
      have k1 := hM.k1
      have hfl := firstC_le x.l (x.l.length - 1)
      have hd : x.l[firstC x.l (x.l.length - 1)]? = some (x.l[firstC x.l (x.l.length - 1)]'(by omega)) := List.getElem?_eq_getElem (by omega)
      generalize (x.l[firstC x.l (x.l.length - 1)]'(by omega)) = d at hd
      have hdm := List.mem_of_getElem? hd
      have hde := hM.each d hdm
      have hdn := hM.le hdm
      refine Ld1.ad h35 (u := .slice a x.l.length c) rfl ⟨_, _, _, rfl, ?_⟩
      refine CallK.mk (first_gives (hr.bel f05.bel) rfl hlen) ?_
      rintro _ W6 ⟨rfl, hb6'⟩
      have f06 := f05.trans (frOf (S := fun q => W.heap.size ≤ q) hb6')
      refine ⟨_, rfl, ?_⟩
      have h36 := belowAt hb6' h35
      have z6 := hb6'.size
      refine Ld1.ad h36 (u := .slice a x.l.length c) rfl ⟨_, _, _, rfl, ?_⟩
      refine (hr.bel f06.bel).get1 encN_len rfl rfl hd (c := 12) (u := .int .u64 d.2.1) rfl ⟨_, rfl, ?_⟩
      refine StV.ad1 h36 (v := .int .u64 d.2.1) rfl (show 0 + 2 < 4 by decide) rfl fun W7 h37 hsz7 hf7 => ?_
      have f07 := f06.trans' hf7 fun q hq _ => by omega
      refine Ld1.ad h37 (u := .slice a x.l.length c) rfl ⟨_, _, _, rfl, ?_⟩
      refine CallK.mk (without_gives (hr.bel f07.bel) rfl hlen (firstC x.l (x.l.length - 1))) ?_
      rintro _ W8 ⟨⟨a8, c8, rfl, hs8, hown8⟩, hb8⟩
      refine ⟨_, _, _, rfl, ?_⟩
      have z8 := hb8.size
      refine StV.ad1 (belowAt hb8 h37) (v := .slice a8 (x.l.eraseIdx (firstC x.l (x.l.length - 1))).length c8) rfl (show 0 + 3 < 4 by decide) rfl fun W9 h39 hsz9 hf9 => ?_
      have hs9 := hs8.fr hf9 fun g hg e => by have := hown8 g hg; omega
      have hel := List.length_eraseIdx_le x.l (firstC x.l (x.l.length - 1))
      exact tail (x.l.eraseIdx (firstC x.l (x.l.length - 1))) d.2.1 a8 c8 W9 h39 (hf9.at (by omega) (belowAt hb8 (hf7.at (by omega) (belowAt hb6' h45)))) (hf9.at (by omega) (belowAt hb8 (hf7.at (by omega) (belowAt hb6' h65)))) hs9.rd hs9.cap (by omega) (by omega) (by omega)
        ((f07.trans (frOf hb8)).trans' hf9 fun q hq _ => by omega) (ins_evict hok hnz hp hfull' hd)
    · have hroom' : (x.l.length : Int) ≠ x.k := hroom
      exact tail x.l x.sl a c W5 h35 h45 h65 (hr.bel f05.bel) hc hlen s0 (by omega) f05 (ins_new hok hnz hp hroom'))
theorem get_place {x : Sv} (hM : May x) (p : Pfx) : match placeC x.l p with | some i => ∃ c, x.l[i]? = some c ∧ getC x.l p = some c | none => getC x.l p = none := by
  cases hp : placeC x.l p with
  | none =>
    cases hg : getC x.l p with
    | none => rfl
    | some c => exact absurd ⟨c, (getC_some hg).1, (getC_some hg).2⟩ (placeC_none hp)
  | some i =>
    obtain ⟨d, hd, e⟩ := placeC_some hp
    refine ⟨d, hd, ?_⟩
    cases hg : getC x.l p with
    | none => exact absurd ⟨d, List.mem_of_getElem? hd, e⟩ (getC_none hg)
    | some c =>
      obtain ⟨h1, h2⟩ := getC_some hg
      rw [hM.asc.uniq h1 (List.mem_of_getElem? hd) (h2.trans e.symm)]
theorem refLow_gives {W : World} {x : Sv} (hM : May x) {a : Option Addr} {n c : Nat} (hr : RdL W 14 encN a x.l) (hn : n = x.l.length) (p : Pfx) :
    Gives Try.prog 51 #[.agg (hdS x a n c).toArray, kv p] W fun v W' => v = .int .u64 (lowS x p) ∧ Below W.heap.size W W' := F51_fn (by
  unfold F51
  subst hn
  refine NewA.mk fun b2 W1 h2 hb2 hsz1 hbl1 => NewA.mk fun b3 W2 h3 hb3 hsz2 hbl2 => ?_
  have hB2 := hbl1.trans (hbl2.mono hbl1.size)
  have h22 := belowAt hbl2 h2
  have hlen : x.l.length ≤ 200 := by have := hM.len; have := hM.k2; omega
  refine Ld1.ad h22 (u := .slice a x.l.length c) rfl ⟨_, _, _, rfl, ?_⟩
  refine LdNC.mk h3 (cs := encP p) rfl rfl ?_
  refine CallK.mk (place_gives (hr.bel hB2) rfl (by omega) p) ?_
  rintro _ W3 ⟨rfl, hb3'⟩
  have hB3 := hB2.trans (hb3'.mono hB2.size)
  have h23 := belowAt hb3' h22
  refine ⟨_, rfl, ?_⟩
  have hgp := get_place hM p
  unfold placeI lowS
  cases hp : placeC x.l p with
  | none =>
    rw [hp] at hgp
    simp only at hgp
    rw [hgp]
    exact If.pos (decide_eq_true (by simp only; omega)) ⟨rfl, hB3⟩
  | some i =>
    rw [hp] at hgp
    obtain ⟨d, hd, hg⟩ := hgp
    rw [hg]
    have hde := hM.each d (List.mem_of_getElem? hd)
    have hdn := hM.le (List.mem_of_getElem? hd)
    have n1 := hM.n1
    refine If.neg (decide_eq_false (by simp only; omega)) ?_
    refine Ld1.ad h23 (u := .slice a x.l.length c) rfl ⟨_, _, _, rfl, ?_⟩
    refine (hr.bel hB3).get1 encN_len rfl rfl hd (c := 12) (u := .int .u64 d.2.1) rfl ⟨_, rfl, ?_⟩
    refine Ld1.ad h23 (u := .slice a x.l.length c) rfl ⟨_, _, _, rfl, ?_⟩
    intro W4 hb4
    have hB4 := hB3.trans (hb4.mono hB3.size)
    refine (hr.bel hB4).get1 encN_len rfl rfl hd (c := 13) (u := .int .u64 d.2.2) rfl ⟨_, rfl, ?_⟩
    have hwr := wrap_u64 (x := d.2.1 - d.2.2) (by omega) (by omega)
    dsimp only
    rw [hwr]
    exact ⟨rfl, hB4⟩)
theorem refHigh_gives {W : World} {x : Sv} (hM : May x) {a : Option Addr} {n c : Nat} (hr : RdL W 14 encN a x.l) (hn : n = x.l.length) (p : Pfx) :
    Gives Try.prog 52 #[.agg (hdS x a n c).toArray, kv p] W fun v W' => v = .int .u64 (highS x p) ∧ Below W.heap.size W W' := F52_fn (by
  unfold F52
  subst hn
  refine NewA.mk fun b2 W1 h2 hb2 hsz1 hbl1 => NewA.mk fun b3 W2 h3 hb3 hsz2 hbl2 => ?_
  have hB2 := hbl1.trans (hbl2.mono hbl1.size)
  have h22 := belowAt hbl2 h2
  have hlen : x.l.length ≤ 200 := by have := hM.len; have := hM.k2; omega
  refine Ld1.ad h22 (u := .slice a x.l.length c) rfl ⟨_, _, _, rfl, ?_⟩
  refine LdNC.mk h3 (cs := encP p) rfl rfl ?_
  refine CallK.mk (place_gives (hr.bel hB2) rfl (by omega) p) ?_
  rintro _ W3 ⟨rfl, hb3'⟩
  have hB3 := hB2.trans (hb3'.mono hB2.size)
  have h23 := belowAt hb3' h22
  refine ⟨_, rfl, ?_⟩
  have hgp := get_place hM p
  unfold placeI highS
  cases hp : placeC x.l p with
  | none =>
    rw [hp] at hgp
    simp only at hgp
    rw [hgp]
    refine If.pos (decide_eq_true (by simp only; omega)) ?_
    exact Ld1.ad h23 (u := .int .u64 x.sl) rfl ⟨_, rfl, rfl, hB3⟩
  | some i =>
    rw [hp] at hgp
    obtain ⟨d, hd, hg⟩ := hgp
    rw [hg]
    refine If.neg (decide_eq_false (by simp only; omega)) ?_
    refine Ld1.ad h23 (u := .slice a x.l.length c) rfl ⟨_, _, _, rfl, ?_⟩
    exact (hr.bel hB3).get1 encN_len rfl rfl hd (c := 12) (u := .int .u64 d.2.1) rfl ⟨_, rfl, rfl, hB3⟩)
end Go.Proofs.Ytcagnabglppenaa.Sv
