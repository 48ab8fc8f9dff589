/- The heap of numbers: Raise, Drop. -/
import Derived.Test.YtcagnabglppenaaKf
namespace Go.Proofs.Ytcagnabglppenaa.Hp
open Go Go.RowKit Go.Vc Go.Proofs.Ytcagnabglppenaa.Fs Go.Proofs.Ytcagnabglppenaa.Hl

theorem HeapG.set {W : World} {B m g cap : Nat} {l : List Item} {f : Int → Option Nat} (h : HeapG W B m (.slice (some ⟨g, 0, none⟩) l.length cap) l f) {cur : Array Value} {i : Nat} (x : Item) (hi : i < l.length)
    (_ : W.heap[g]? = some (.cells cur 100 (0, 0))) (hc1 : l.length ≤ cap) (hc2 : cap ≤ maxLen) (hc3 : cur.size = cap * 2) (hc4 : cur.toList.take (l.length * 2) = l.flatMap encC) {W' : World}
    (hg' : W'.heap[g]? = some (.cells (cur.toList.take (i * 2) ++ encC x ++ cur.toList.drop (i * 2 + 2)).toArray 100 (0, 0))) (hf : Fr (fun b => b = g) W W') : HeapG W' B m (.slice (some ⟨g, 0, none⟩) l.length cap) (l.set i x) f := by
  obtain ⟨hBm, hgo⟩ := h.apart
  obtain ⟨hgB, hgm⟩ := hgo g rfl
  obtain ⟨hs1, hs2⟩ := row_set encC_len x hc1 hc3 hc4 hi
  refine ⟨hf.at (Ne.symm hgB) h.hB, h.hm.of_heap (hf.blk m h.hm.lt (Ne.symm hgm)), ?_⟩
  have := SlR.mk (l := l.set i x) encC_len hg' (by simpa using hc1) hc2 hs1 hs2
  rw [List.length_set] at this
  exact this
theorem MapsTo.set {f : Int → Option Nat} {l : List Item} (h : MapsTo f l) {i : Nat} {k u v : Int} (hi : l[i]? = some (k, u)) : MapsTo f (l.set i (k, v)) := by
  intro k' n
  rw [h k' n]
  have hil := (List.getElem?_eq_some_iff.1 hi).1
  by_cases hn : i = n
  · subst hn
    simp [hil]
    constructor
    · rintro ⟨w, h⟩
      have h1 : l[i]? = some (k', w) := by rw [List.getElem?_eq_getElem hil]; simpa using h
      rw [hi] at h1; cases h1; rfl
    · intro h; subst h; exact ⟨u, by have := (List.getElem?_eq_some_iff.1 hi).2; exact this⟩
  · rw [List.getElem?_set_ne hn]
theorem raise_gives {W : World} {B : Nat} {S : Nat → Prop} {l : List Item} (h : HeapS W B S l) (k w : Int) (hw : 0 ≤ w ∧ w < 18446744073709551616) :
    Gives Try.prog 23 #[ptr B, .int .i64 k, .int .u64 w] W fun v W' => (¬ Key l k ∧ v = .int .i64 4 ∧ W' = W) ∨ ∃ (i : Nat) (u : Int), l[i]? = some (k, u) ∧
      ((u + w ≥ 18446744073709551616 ∧ v = .int .i64 13 ∧ W' = W) ∨ (u + w < 18446744073709551616 ∧ v = .int .i64 0 ∧ (∃ l', HeapS W' B (Hp.grow S W W') l' ∧ l'.Perm (l.set i (k, u + w))) ∧ Fr S W W')) := F23_fn (by
  unfold F23
  obtain ⟨⟨m, sl, ho, hS⟩, hSlt⟩ := h
  obtain ⟨⟨f, hg, hmt⟩, hlen⟩ := ho.c
  refine CallK.mk (made_gives hg.hB) ?_
  rintro _ _ ⟨rfl, rfl⟩
  refine ⟨_, rfl, If.neg rfl ?_⟩
  rename_i W
  refine Ld1.ad hg.hB rfl ?_
  refine lookC hg.hm hmt k (fun i u hi => ?_) fun hn => ⟨_, _, rfl, _, rfl, _, rfl, If.pos rfl (.inl ⟨hn, rfl, rfl⟩)⟩
  refine ⟨_, _, rfl, _, rfl, _, rfl, If.neg rfl ?_⟩
  have hil := (List.getElem?_eq_some_iff.1 hi).1
  obtain ⟨g, cap, cur, rfl, hgc, hc1, hc2, hc3, hc4⟩ := SlR.own hg.hs hil
  have hwf := ho.wf _ (List.mem_of_getElem? hi)
  simp only at hwf
  have hrow := row_get encC_len hc4 hi
  have hcell : cur[0 + i * 2 + 1]? = some (.int .u64 u) := by
    have : ((cur.toList.drop (i * 2)).take 2)[1]? = some (.int .u64 u) := by rw [hrow]; rfl
    rw [List.getElem?_take_of_lt (by decide), List.getElem?_drop] at this
    simpa using this
  have hcell0 : cur[i * 2]? = some (.int .i64 k) := by
    have : ((cur.toList.drop (i * 2)).take 2)[0]? = some (.int .i64 k) := by rw [hrow]; rfl
    rw [List.getElem?_take_of_lt (by decide), List.getElem?_drop] at this
    simpa using this
  refine Ld1.ad hg.hB rfl (AsL.mk rfl ?_)
  refine IdxS.mk rfl hil ?_
  rw [add_at]
  refine Ld1.ad hgc hcell (AsI.mk ?_)
  rw [wrap_u64 (x := 18446744073709551615 - u) (by omega) (by omega)]
  refine If.dec (fun hov => .inr ⟨i, u, hi, .inl ⟨by omega, rfl, rfl⟩⟩) fun hok => ?_
  refine Ld1.ad hg.hB rfl (AsL.mk rfl ?_)
  refine IdxS.mk rfl hil ?_
  rw [add_at]
  refine Ld1.ad hgc hcell (AsI.mk ?_)
  refine IdxS.mk rfl hil ?_
  rw [add_at]
  rw [wrap_u64 (x := u + w) (by omega) (by omega)]
  have hlt : i * 2 + 2 ≤ cur.size := by rw [hc3]; omega
  have hcs : (cur.toList.take (0 + i * 2 + 1) ++ [Value.int .u64 (u + w)] ++ cur.toList.drop (0 + i * 2 + 1 + 1)).toArray = (cur.toList.take (i * 2) ++ encC (k, u + w) ++ cur.toList.drop (i * 2 + 2)).toArray := by
    rw [Nat.zero_add]
    have e1 : cur.toList.take (i * 2 + 1) = cur.toList.take (i * 2) ++ [.int .i64 k] := by
      rw [List.take_add_one]
      congr 1
      have : cur.toList[i * 2]? = some (.int .i64 k) := by simpa using hcell0
      rw [this]; rfl
    rw [e1]
    simp [encC]
  refine StV.ad hgc (v := .int .u64 (u + w)) rfl (by omega) rfl hcs fun W2 hg2 hsz2 hf2 => ?_
  have hG2 := hg.set (k, u + w) hil hgc hc1 hc2 hc3 hc4 hg2 hf2
  have hC2 : HeapC W2 B m (.slice (some ⟨g, 0, none⟩) l.length cap) (l.set i (k, u + w)) := ⟨⟨f, hG2, hmt.set hi⟩, by simpa using hlen⟩
  have hD : AlmD leI (l.set i (k, u + w)) i := by
    have hle : leI (k, u) (k, u + w) := by rw [leI_iff]; simp only; omega
    have h0 := ho.ord.almD leI_tr i
    refine ⟨fun j x y hj hp hx hy => ?_, fun j x y hj hj0 hp hx hy => ?_⟩
    · rw [List.getElem?_set_ne (Ne.symm hp)] at hy
      by_cases hji : j = i
      · subst hji
        simp [hil] at hx
        subst hx
        exact leI_tr _ _ _ (ho.ord j _ y hj hi hy) hle
      · rw [List.getElem?_set_ne (Ne.symm hji)] at hx
        exact ho.ord j x y hj hx hy
    · have h1 := par_lt hj
      have h2 := par_lt hj0
      rw [List.getElem?_set_ne (by omega)] at hx hy
      exact h0.2 j x y hj hj0 hp hx hy
  refine CallK.mk (down_gives hC2 (i := i) (by simpa using hil) hD) ?_
  rintro _ W3 ⟨rfl, ⟨l', hC3, hp, hH⟩, hf3⟩
  have hf2' : Fr (foot B m (.slice (some ⟨g, 0, none⟩) l.length cap)) W W2 := hf2.mono fun b _ e => by subst e; exact .inr (.inr rfl)
  have hfr := hf2'.trans hf3
  refine .inr ⟨i, u, hi, .inr ⟨by omega, rfl, ⟨l', ⟨⟨m, _, ⟨hC3, hH, fun x hx => ?_⟩, fun b hb => .inl (hS b hb)⟩, ?_⟩, hp⟩, hfr.mono fun b _ hb => hS b hb⟩⟩
  · have := hp.mem_iff.1 hx
    rcases List.mem_or_eq_of_mem_set this with h | rfl
    · exact ho.wf x h
    · simp only; omega
  · rintro b (hb | hb)
    · exact Nat.lt_of_lt_of_le (hSlt b hb) hfr.size
    · exact hb.2)
theorem perm_last {l l1 : List Item} {i : Nat} {a : Item} (hi : l[i]? = some a) (hp : (l1 ++ [a]).Perm l) : l1.Perm (l.eraseIdx i) := by
  have hil := (List.getElem?_eq_some_iff.1 hi).1
  have h1 : (a :: l.eraseIdx i).Perm l := by
    rw [List.eraseIdx_eq_take_drop_succ]
    have e : l = l.take i ++ a :: l.drop (i + 1) := by
      conv => lhs; rw [← List.take_append_drop i l]
      rw [List.drop_eq_getElem_cons hil, (List.getElem?_eq_some_iff.1 hi).2]
    conv => rhs; rw [e]
    exact List.perm_middle.symm
  have h2 : (a :: l1).Perm (a :: l.eraseIdx i) := ((List.perm_append_singleton a l1).symm.trans hp).trans h1.symm
  exact (List.perm_cons a).1 h2
theorem drop_gives {W : World} {B : Nat} {S : Nat → Prop} {l : List Item} (h : HeapS W B S l) (k : Int) :
    Gives Try.prog 25 #[ptr B, .int .i64 k] W fun v W' => (¬ Key l k ∧ v = .int .i64 4 ∧ W' = W) ∨ ∃ (i : Nat) (u : Int), l[i]? = some (k, u) ∧
      v = .int .i64 0 ∧ (∃ l', HeapS W' B (Hp.grow S W W') l' ∧ l'.Perm (l.eraseIdx i)) ∧ Fr S W W' := F25_fn (by
  unfold F25
  obtain ⟨⟨m, sl, ho, hS⟩, hSlt⟩ := h
  obtain ⟨⟨f, hg, hmt⟩, hlen⟩ := ho.c
  refine CallK.mk (made_gives hg.hB) ?_
  rintro _ _ ⟨rfl, rfl⟩
  refine ⟨_, rfl, If.neg rfl ?_⟩
  rename_i W
  refine Ld1.ad hg.hB rfl ?_
  refine lookC hg.hm hmt k (fun i u hi => ?_) fun hn => ⟨_, _, rfl, _, rfl, _, rfl, If.pos rfl (.inl ⟨hn, rfl, rfl⟩)⟩
  refine ⟨_, _, rfl, _, rfl, _, rfl, If.neg rfl ?_⟩
  have hil := (List.getElem?_eq_some_iff.1 hi).1
  obtain ⟨g, cap, cur, rfl, hgc, hc1, hc2, hc3, hc4⟩ := SlR.own hg.hs hil
  obtain ⟨hBm, hgo⟩ := hg.apart
  obtain ⟨hgB, hgm⟩ := hgo g rfl
  refine Ld1.ad hg.hB rfl (AsL.mk rfl ?_)
  have hwr : IntKind.i64.wrap ((l.length : Int) - 1) = ((l.length - 1 : Nat) : Int) := by rw [wrap_i64] <;> omega
  rw [hwr]
  have hb : l[l.length - 1]? = some (l[l.length - 1]'(by omega)) := List.getElem?_eq_getElem (by omega)
  generalize (l[l.length - 1]'(by omega)) = b at hb
  -- the swap
  refine CallK.mk (swap_gives hg hi hb) ?_
  rintro _ W2 ⟨rfl, hG2, hf2⟩
  have hmt2 := hmt.swap hi hb
  obtain ⟨a2, c2, hsl2⟩ : ∃ a2 c2, Value.slice (some ⟨g, 0, none⟩) l.length cap = .slice a2 l.length c2 := ⟨_, _, rfl⟩
  refine Ld1.ad hG2.hB rfl (AsL.mk rfl ?_)
  refine SlB.mk 0 (l.length - 1) rfl rfl (by omega) (by omega) ?_
  have hv : (Value.slice (if cap = 0 then some (⟨g, 0, none⟩ : Addr) else Option.map (fun z => Addr.add z (0 * 2)) (some ⟨g, 0, none⟩)) (l.length - 1 - 0) (cap - 0)) = .slice (some ⟨g, 0, none⟩) (l.length - 1) cap := by
    have : Addr.add ⟨g, 0, none⟩ (0 * 2) = ⟨g, 0, none⟩ := by rw [add_at]
    split <;> simp [this]
  rw [hv]
  refine StV.ad1 hG2.hB (v := .slice (some ⟨g, 0, none⟩) (l.length - 1) cap) rfl (show 0 + 2 < 3 by decide) rfl fun W3 hB3 hsz3 hf3 => ?_
  have hB3' : W3.heap[B]? = some (.cells (headC m (.slice (some ⟨g, 0, none⟩) (l.length - 1) cap)) 97 (0, 0)) := hB3
  refine Ld1.ad hB3' rfl ?_
  have hm3 := hG2.hm.of_heap (hf3.blk m hG2.hm.lt (Ne.symm hBm))
  obtain ⟨o, ho1, ho2⟩ := hm3.delete (P := Try.prog) (kt' := 3) (ty := 0) (keyOK_int t3) t94 k
  refine ⟨_, _, ho1, ?_⟩
  -- what lies there now
  have hsl : (swapL l i (l.length - 1) (k, u) b).length = l.length := swapL_len
  have hs4 : SlR (World.setBlk W3 m o) 100 2 encC (.slice (some ⟨g, 0, none⟩) (l.length - 1) cap) ((swapL l i (l.length - 1) (k, u) b).take (l.length - 1)) := by
    have h1 : SlR W2 100 2 encC (.slice (some ⟨g, 0, none⟩) (swapL l i (l.length - 1) (k, u) b).length cap) (swapL l i (l.length - 1) (k, u) b) := by rw [hsl]; exact hG2.hs
    have h2 := h1.less encC_len (k := l.length - 1) (by rw [hsl]; omega)
    refine h2.of_heap fun g' hg' => ?_
    cases hg'
    exact (setBlk_other hgm).trans (hf3.blk g (hG2.hs.lt rfl) hgB)
  have hlast : (swapL l i (l.length - 1) (k, u) b) = (swapL l i (l.length - 1) (k, u) b).take (l.length - 1) ++ [(k, u)] := by
    have hd : (swapL l i (l.length - 1) (k, u) b).drop (l.length - 1) = [(k, u)] := by
      apply List.ext_getElem?
      intro n
      rw [List.getElem?_drop]
      cases n with
      | zero => rw [Nat.add_zero, swapL_j (by omega)]; rfl
      | succ n => rw [List.getElem?_eq_none (by rw [hsl]; omega)]; simp
    have := List.take_append_drop (l.length - 1) (swapL l i (l.length - 1) (k, u) b)
    rw [hd] at this
    exact this.symm
  have hperm : ((swapL l i (l.length - 1) (k, u) b).take (l.length - 1)).Perm (l.eraseIdx i) := perm_last hi (by rw [← hlast]; exact swapL_perm hi hb)
  have hget : ∀ n, n < l.length - 1 → n ≠ i → ((swapL l i (l.length - 1) (k, u) b).take (l.length - 1))[n]? = l[n]? := fun n hn hni => by
    rw [List.getElem?_take_of_lt hn, swapL_o hni (by omega)]
  have hmt4 : MapsTo (upd (upd (upd f b.1 (some i)) k (some (l.length - 1))) k none) ((swapL l i (l.length - 1) (k, u) b).take (l.length - 1)) := by
    intro k' n
    by_cases hk : k' = k
    · subst hk
      rw [upd_same]
      constructor
      · intro h; cases h
      · rintro ⟨w, hw⟩
        have hn : n < l.length - 1 := by
          have := (List.getElem?_eq_some_iff.1 hw).1
          simp [hsl] at this; omega
        rw [List.getElem?_take_of_lt hn] at hw
        have h1 := (hmt2 k' n).2 ⟨w, hw⟩
        rw [upd_same] at h1
        have := Option.some.inj h1
        omega
    · rw [upd_other _ _ hk, hmt2 k' n]
      constructor
      · rintro ⟨w, hw⟩
        refine ⟨w, ?_⟩
        have hn : n < l.length - 1 := by
          have h1 := (List.getElem?_eq_some_iff.1 hw).1
          rw [hsl] at h1
          refine Classical.byContradiction fun h2 => ?_
          have : n = l.length - 1 := by omega
          subst this
          rw [swapL_j (by omega)] at hw
          cases hw; exact hk rfl
        rw [List.getElem?_take_of_lt hn]; exact hw
      · rintro ⟨w, hw⟩
        have hn : n < l.length - 1 := by
          have := (List.getElem?_eq_some_iff.1 hw).1
          simp [hsl] at this; omega
        rw [List.getElem?_take_of_lt hn] at hw
        exact ⟨w, hw⟩
  have hlen1 : ((swapL l i (l.length - 1) (k, u) b).take (l.length - 1)).length = l.length - 1 := by simp [hsl]
  have hC4 : HeapC (World.setBlk W3 m o) B m (.slice (some ⟨g, 0, none⟩) (l.length - 1) cap) ((swapL l i (l.length - 1) (k, u) b).take (l.length - 1)) :=
    ⟨⟨_, ⟨(setBlk_other hBm).trans hB3', ho2, by unfold SlR at hs4 ⊢; exact hs4⟩, hmt4⟩, by rw [hlen1]; omega⟩
  have hf4 : Fr (foot B m (.slice (some ⟨g, 0, none⟩) l.length cap)) W (World.setBlk W3 m o) := (hf2.trans (hf3.mono fun b _ e => by subst e; exact .inl rfl)).trans (Fr.setBlk (.inr (.inl rfl)) _ _)
  have hfoot : ∀ b, foot B m (.slice (some ⟨g, 0, none⟩) (l.length - 1) cap) b → foot B m (.slice (some ⟨g, 0, none⟩) l.length cap) b := fun b hb => hb
  have hwf : ∀ x ∈ l.eraseIdx i, 0 ≤ x.2 ∧ x.2 < 18446744073709551616 := fun x hx => ho.wf x (List.mem_of_mem_eraseIdx hx)
  have fin : ∀ W5 l', HeapC W5 B m (.slice (some ⟨g, 0, none⟩) (l.length - 1) cap) l' → HeapL leI l' → l'.Perm (l.eraseIdx i) → Fr (foot B m (.slice (some ⟨g, 0, none⟩) l.length cap)) W W5 →
      (∃ l', HeapS W5 B (Hp.grow S W W5) l' ∧ l'.Perm (l.eraseIdx i)) ∧ Fr S W W5 := fun W5 l' h1 h2 h3 h4 =>
    ⟨⟨l', ⟨⟨m, _, ⟨h1, h2, fun x hx => hwf x (h3.mem_iff.1 hx)⟩, fun b hb => .inl (hS b (hfoot b hb))⟩, fun b hb => hb.elim (fun h => Nat.lt_of_lt_of_le (hSlt b h) h4.size) (fun h => h.2)⟩, h3⟩, h4.mono fun b _ hb => hS b hb⟩
  refine Join.use fun J hJ => ?_
  rw [hJ]
  refine If.dec (fun hlt => ?_) fun hnlt => ?_
  · have hin : i < l.length - 1 := by omega
    have hbi : ((swapL l i (l.length - 1) (k, u) b).take (l.length - 1))[i]? = some b := by rw [List.getElem?_take_of_lt hin, swapL_i hil (by omega)]
    have halm : Alm leI ((swapL l i (l.length - 1) (k, u) b).take (l.length - 1)) i := by
      have hlt1 : ∀ n x, ((swapL l i (l.length - 1) (k, u) b).take (l.length - 1))[n]? = some x → n < l.length - 1 := fun n x h => by
        have := (List.getElem?_eq_some_iff.1 h).1; rw [hlen1] at this; exact this
      refine ⟨fun j x y hj hji hpi hx hy => ?_, fun j x y hi0 hj hpj hx hy => ?_⟩
      · rw [hget j (hlt1 j x hx) hji] at hx
        rw [hget _ (hlt1 _ y hy) hpi] at hy
        exact ho.ord j x y hj hx hy
      · have h1 := par_lt hi0
        have h2 := par_lt hj
        rw [hget j (hlt1 j x hx) (by omega)] at hx
        rw [hget _ (hlt1 _ y hy) (by omega)] at hy
        exact leI_tr _ _ _ (ho.ord i _ y hi0 hi hy) (ho.ord j x _ hj hx (by rw [hpj]; exact hi))
    refine CallK.mk (up_gives hC4 (i := i) (by rw [hlen1]; exact hin) halm) ?_
    rintro _ W5 ⟨rfl, ⟨l5, hC5, hp5, hD5⟩, hf5⟩
    refine CallK.mk (down_gives hC5 (i := i) (by rw [hp5.length_eq, hlen1]; exact hin) hD5) ?_
    rintro _ W6 ⟨rfl, ⟨l6, hC6, hp6, hH6⟩, hf6⟩
    exact .inr ⟨i, u, hi, rfl, fin W6 l6 hC6 hH6 ((hp6.trans hp5).trans hperm) ((hf4.trans hf5).trans hf6)⟩
  · have hin : i = l.length - 1 := by omega
    refine .inr ⟨i, u, hi, rfl, fin _ _ hC4 (fun j x y hj hx hy => ?_) hperm hf4⟩
    have hjl : j < l.length - 1 := by
      have := (List.getElem?_eq_some_iff.1 hx).1; rw [hlen1] at this; exact this
    have := par_lt hj
    rw [hget j hjl (by omega)] at hx
    rw [hget _ (by omega) (by omega)] at hy
    exact ho.ord j x y hj hx hy)
end Go.Proofs.Ytcagnabglppenaa.Hp
