/- The reference's summaries: counts with one more, with one less, the first; Insert, Low, High. -/
import Derived.Test.YtcagnabglppenaaWl
import Derived.Test.YtcagnabglppenaaWh
namespace Go.Proofs.Ytcagnabglppenaa.Sv
open Go Go.RowKit Go.Vc Go.Proofs.Ytcagnabglppenaa.Fs Go.Proofs.Ytcagnabglppenaa.Px Go.Proofs.Ytcagnabglppenaa.Hq

/-- One more behind. -/
theorem app_N {W : World} {a : Option Addr} {n c : Nat} {l : List Cnt} {d : Cnt} (hs : SlR W 86 14 encN (.slice a n c) l) (hlen : l.length < 1000000) {q : Nat} (hq : W.heap[q]? = some (.cells (encN d).toArray 86 (0, 0))) :
    ∃ a' c' W', (Builtin.append_ #[50, 50] 50 #[.slice a n c, .slice (some ⟨q, 0, none⟩) 1 1]).run Try.prog W = .ok (.slice a' (l ++ [d]).length c') W' ∧ SlR W' 86 14 encN (.slice a' (l ++ [d]).length c') (l ++ [d]) ∧
      Fr (fun x => (Value.slice a n c).ownBlock = some x) W W' ∧ ∀ g, (Value.slice a' (l ++ [d]).length c').ownBlock = some g → (Value.slice a n c).ownBlock = some g ∨ g = W.heap.size := by
  obtain ⟨inf, hi1, hi2, hi3, hi4⟩ := i86
  obtain ⟨v', W', hrun, hs', hgr, hown⟩ := hs.append (P := Try.prog) (ty := 50) (ys := [d]) (c := 1) (a := ⟨q, 0, none⟩) encN_len encN_one t50 hi1 hi2 hi3 hi4 rfl (by decide) (cells_row (by simpa using hq)) (by simp; omega) (by simp [maxLen]; omega)
  obtain ⟨a', c', hv'⟩ := hs'.shape
  subst hv'
  refine ⟨a', c', W', hrun, hs', Fr.grown hgr fun k hk => hk, fun g hg => ?_⟩
  rcases hown with e | e
  · exact .inl (e ▸ hg)
  · rw [e] at hg; cases hg; exact .inr rfl
theorem erase_take {l : List Cnt} {j at' : Nat} {d : Cnt} (h : l[j]? = some d) : (l.take (j + 1)).eraseIdx at' = if j = at' then (l.take j).eraseIdx at' else (l.take j).eraseIdx at' ++ [d] := by
  have hl : (l.take j).length = j := by rw [List.length_take]; have := (List.getElem?_eq_some_iff.1 h).1; omega
  rw [← (take_step h).2]
  by_cases e : j = at'
  · subst e
    rw [if_pos rfl, List.eraseIdx_append_of_length_le (by omega), List.eraseIdx_of_length_le (l := l.take j) (by omega), hl, Nat.sub_self]
    simp
  · rw [if_neg e]
    rcases Nat.lt_or_ge at' j with h1 | h1
    · rw [List.eraseIdx_append_of_lt_length (by omega)]
    · rw [List.eraseIdx_append_of_length_le (by omega), List.eraseIdx_of_length_le (l := l.take j) (by omega), List.eraseIdx_of_length_le (by simp; omega)]
theorem without_gives {W : World} {l : List Cnt} {a : Option Addr} {n c : Nat} (hr : RdL W 14 encN a l) (hn : n = l.length) (hlen : l.length ≤ 200) (at' : Nat) :
    Gives Try.prog 82 #[.slice a n c, .int .i64 (at' : Int)] W fun v W' => (∃ a' c', v = .slice a' (l.eraseIdx at').length c' ∧ SlR W' 86 14 encN v (l.eraseIdx at') ∧ ∀ g, v.ownBlock = some g → W.heap.size ≤ g) ∧ Below W.heap.size W W' := F82_fn (by
  unfold F82
  refine Lp.enc (fun s : (Option Addr × Nat × Nat) × Int => [.slice s.1.1 s.1.2.1 s.1.2.2, .int .i64 s.2]) (fun s t hst => by
      simp only [List.cons.injEq, Value.slice.injEq, Value.int.injEq, true_and, and_true] at hst
      exact Prod.ext (Prod.ext hst.1.1 (Prod.ext hst.1.2.1 hst.1.2.2)) hst.2)
    (fun s W' => ∃ j : Nat, s.2 = (j : Int) ∧ j ≤ l.length ∧ SlR W' 86 14 encN (.slice s.1.1 s.1.2.1 s.1.2.2) ((l.take j).eraseIdx at') ∧ (∀ g, (Value.slice s.1.1 s.1.2.1 s.1.2.2).ownBlock = some g → W.heap.size ≤ g) ∧ Fr (fun q => W.heap.size ≤ q) W W')
    (fun s _ => ((l.length : Int) + 1 - s.2).toNat) ((none, 0, 0), 0) rfl ⟨0, rfl, Nat.zero_le _, SlR.nil _ _, fun g hg => (by cases hg), Fr.refl _ _⟩ ?_
  rintro ⟨⟨a5, n5, c5⟩, s⟩ W1 kk ⟨j, hj, hjl, hs, hown, hf⟩ hkk
  simp only at hj hs hown
  subst hj
  refine AsL.mk rfl (AsI.mk (If.dec (fun hlt => ?_) fun hge => ?_))
  · have hlt' : (j : Int) < (n : Int) := hlt
    have hx : l[j]? = some (l[j]'(by omega)) := List.getElem?_eq_getElem (by omega)
    generalize (l[j]'(by omega)) = d at hx
    have hel : ((l.take j).eraseIdx at').length ≤ 200 := by
      have := List.length_eraseIdx_le (l.take j) at'
      rw [List.length_take] at this
      omega
    refine Join.use fun J hJ => ?_
    have next : ∀ (a' : Option Addr) (n' c' : Nat) (W' : World), SlR W' 86 14 encN (.slice a' n' c') ((l.take (j + 1)).eraseIdx at') → (∀ g, (Value.slice a' n' c').ownBlock = some g → W.heap.size ≤ g) → Fr (fun q => W.heap.size ≤ q) W W' → J a' n' c' W' := by
      intro a' n' c' W' h1 h2 h3
      rw [hJ]
      show kk [.slice a' n' c', .int .i64 (IntKind.i64.wrap ((j : Int) + 1))] W'
      rw [nsucc (by omega)]
      exact hkk ((a', n', c'), ((j + 1 : Nat) : Int)) W' ⟨j + 1, rfl, by omega, h1, h2, h3⟩ (by simp only; omega)
    refine If.bne (fun hne => ?_) fun heq => ?_
    · have hne' : j ≠ at' := fun e => hne (by rw [e])
      refine (hr.bel hf.bel).get encN_len hn rfl hx ?_
      refine NewSC.mk (cs := (encN d).toArray) ⟨rfl, by decide, trivial⟩ (by kernel_rfl) fun q W2 hq hqe hsz2 hb2 => ?_
      obtain ⟨a', c', W3, hrun, hs3, hf3, hown3⟩ := app_N (hs.bel hb2) (by omega) hq
      refine ⟨_, W3, hrun, _, _, _, rfl, ?_⟩
      have z := hf.size; have z2 := hb2.size
      refine next _ _ _ _ (by rw [erase_take hx, if_neg hne']; exact hs3) (fun g hg => ?_) ((hf.trans (frOf hb2)).trans' hf3 fun q hq _ => hown q hq)
      rcases hown3 g hg with h | h
      · exact hown g h
      · omega
    · have heq' : j = at' := by
        have : (j : Int) = (at' : Int) := heq
        omega
      exact next a5 n5 c5 W1 (by rw [erase_take hx, if_pos heq']; exact hs) hown hf
  · have hge' : ¬ (j : Int) < (n : Int) := hge
    rw [List.take_of_length_le (by omega)] at hs
    have e := hs.len
    subst e
    exact ⟨⟨a5, c5, rfl, hs, hown⟩, hf.bel⟩)
theorem first_gives {W : World} {l : List Cnt} {a : Option Addr} {n c : Nat} (hr : RdL W 14 encN a l) (hn : n = l.length) (hlen : l.length ≤ 200) :
    Gives Try.prog 83 #[.slice a n c] W fun v W' => v = .int .i64 ((firstC l (l.length - 1) : Nat) : Int) ∧ Below W.heap.size W W' := F83_fn (by
  unfold F83
  refine Lp.enc (fun s : Int × Int => [.int .i64 s.1, .int .i64 s.2]) (fun s t hst => by simp at hst; exact Prod.ext hst.1 hst.2)
    (fun s W' => ∃ j : Nat, s.2 = ((j + 1 : Nat) : Int) ∧ j ≤ l.length - 1 ∧ s.1 = ((firstC l j : Nat) : Int) ∧ Below W.heap.size W W') (fun s _ => (300 - s.2).toNat) (0, 1) rfl ⟨0, rfl, Nat.zero_le _, rfl, Below.refl _ _⟩ ?_
  rintro ⟨x3, x4⟩ W1 k ⟨j, hj, hjl, h3, hb⟩ hk
  simp only at hj h3
  subst hj
  subst h3
  refine AsI.mk (AsI.mk (If.dec (fun hlt => ?_) fun hge => ?_))
  · have hlt' : ((j + 1 : Nat) : Int) < (n : Int) := hlt
    have hfl := firstC_le l j
    have hx : l[j + 1]? = some (l[j + 1]'(by omega)) := List.getElem?_eq_getElem (by omega)
    have hy : l[firstC l j]? = some (l[firstC l j]'(by omega)) := List.getElem?_eq_getElem (by omega)
    generalize (l[j + 1]'(by omega)) = d at hx
    generalize (l[firstC l j]'(by omega)) = e at hy
    refine (hr.bel hb).get1 encN_len hn rfl hx (c := 12) (u := .int .u64 d.2.1) rfl ⟨_, rfl, ?_⟩
    intro W2 hb2
    have hB2 := hb.trans (hb2.mono hb.size)
    refine (hr.bel hB2).get1 encN_len hn rfl hy (c := 12) (u := .int .u64 e.2.1) rfl ⟨_, rfl, ?_⟩
    have hstep : firstC l (j + 1) = if d.2.1 < e.2.1 then j + 1 else firstC l j := by
      conv => lhs; unfold firstC
      rw [hx, hy]
    refine Join.use fun J hJ => ?_
    have next : ∀ m : Nat, m = firstC l (j + 1) → J (m : Int) W2 := fun m hm => by
      rw [hJ]
      show k [.int .i64 (m : Int), .int .i64 (IntKind.i64.wrap (((j + 1 : Nat) : Int) + 1))] W2
      rw [nsucc (by omega)]
      exact hk ((m : Int), ((j + 1 + 1 : Nat) : Int)) W2 ⟨j + 1, rfl, by omega, by simp only; rw [hm], hB2⟩ (by simp only; omega)
    refine If.dec (fun h => next (j + 1) (by rw [hstep, if_pos h])) fun h => next _ (by rw [hstep, if_neg h])
  · have hge' : ¬ ((j + 1 : Nat) : Int) < (n : Int) := hge
    have : l.length - 1 = j := by omega
    rw [this]
    exact ⟨rfl, hb⟩)
theorem with_givesG {W : World} {l : List Cnt} {a : Option Addr} {n c : Nat} (hr : RdL W 14 encN a l) (hn : n = l.length) (hc : l.length ≤ c) (hlen : l.length ≤ 1000) (d : Cnt) :
    Gives Try.prog 81 #[.slice a n c, .agg (encN d).toArray] W fun v W' => (∃ a' c', v = .slice a' (withC l d).length c' ∧ SlR W' 86 14 encN v (withC l d) ∧ ∀ g, v.ownBlock = some g → W.heap.size ≤ g) ∧ Below W.heap.size W W' := F81_fn (by
  unfold F81
  refine NewA.mk fun b3 W1 h3 hb3 hsz1 hbl1 => ?_
  refine Lp.enc (fun s : (Option Addr × Nat × Nat) × Int => [.slice s.1.1 s.1.2.1 s.1.2.2, .int .i64 s.2]) (fun s t hst => by
      simp only [List.cons.injEq, Value.slice.injEq, Value.int.injEq, true_and, and_true] at hst
      exact Prod.ext (Prod.ext hst.1.1 (Prod.ext hst.1.2.1 hst.1.2.2)) hst.2)
    (fun s W' => ∃ j : Nat, s.2 = (j : Int) ∧ j ≤ l.length ∧ SlR W' 86 14 encN (.slice s.1.1 s.1.2.1 s.1.2.2) (l.take j) ∧ (∀ g, (Value.slice s.1.1 s.1.2.1 s.1.2.2).ownBlock = some g → W1.heap.size ≤ g) ∧ (∀ y ∈ l.take j, cmpP y.1 d.1 < 0) ∧ Fr (fun q => W1.heap.size ≤ q) W1 W')
    (fun s _ => ((l.length : Int) + 1 - s.2).toNat) ((none, 0, 0), 0) rfl ⟨0, rfl, Nat.zero_le _, SlR.nil _ _, fun g hg => (by cases hg), fun y hy => by simp at hy, Fr.refl _ _⟩ ?_
  rintro ⟨⟨a5, n5, c5⟩, s⟩ W2 kk ⟨j, hj, hjl, hs, hown, hall, hf⟩ hkk
  simp only at hj hs hown
  subst hj
  have B02 : Below W.heap.size W W2 := hbl1.trans (hf.bel.mono hbl1.size)
  have z1 := hbl1.size; have zf := hf.size
  refine AsL.mk rfl (AsI.mk (Join.use fun J hJ => ?_))
  have fin : ∀ W', Below W2.heap.size W2 W' → (∀ y, l[j]? = some y → decide (cmpP y.1 d.1 < 0) = false) → J false W' := by
    intro W' hb hno
    rw [hJ]
    refine If.neg rfl ?_
    have h3' := belowAt hb (belowAt hf.bel h3)
    refine LdNC.mk h3' (cs := encN d) rfl rfl ?_
    refine NewSC.mk (cs := (encN d).toArray) ⟨rfl, by decide, trivial⟩ (by kernel_rfl) fun q W3 hq hqe hsz3 hb3' => ?_
    obtain ⟨a', c', W4, hrun, hs4, hf4, hown4⟩ := app_N ((hs.bel hb).bel hb3') (by rw [List.length_take]; omega) hq
    refine ⟨_, W4, hrun, _, _, _, rfl, ?_⟩
    refine SlB.mk j n rfl rfl (by omega) (by omega) ?_
    have z2 := hb.size; have z3 := hb3'.size; have z4 := hf4.size
    have hf24 : Fr (fun q => W1.heap.size ≤ q) W1 W4 := ((hf.trans (frOf hb)).trans (frOf hb3')).trans' hf4 fun q hq _ => hown q hq
    have hr4 := (hr.bel (hbl1.trans (hf24.bel.mono z1))).from encN_len hc hjl
    obtain ⟨inf, hi1, hi2, hi3, hi4⟩ := i86
    obtain ⟨v', W5, hrun5, hs5, hgr5, hown5⟩ := hs4.appendR (P := Try.prog) (ty := 50) (n := n - j) (c := c - j) encN_len encN_one t50 hi1 hi2 hi3 hi4 rfl (by decide) hr4 (by rw [List.length_drop]; omega) (by simp; omega) (by simp [maxLen]; omega)
    obtain ⟨a6, c6, hv6⟩ := hs5.shape
    subst hv6
    refine ⟨_, W5, hrun5, _, _, _, rfl, ?_⟩
    have hsp := split_at (l := l) (p := fun y : Cnt => decide (cmpP y.1 d.1 < 0)) (j := j) (fun y hy => decide_eq_true (hall y hy)) hno
    have e : withC l d = l.take j ++ [d] ++ l.drop j := by unfold withC; rw [hsp.1, hsp.2]; simp
    rw [e]
    have hf5 : Fr (fun q => W1.heap.size ≤ q) W1 W5 := hf24.trans' (Fr.grown (S := fun x => (Value.slice a' (l.take j ++ [d]).length c').ownBlock = some x) hgr5 fun k hk => hk) fun q hq _ => by
      rcases hown4 q hq with h | h
      · exact hown q h
      · omega
    refine ⟨⟨a6, c6, rfl, hs5, fun g hg => ?_⟩, hbl1.trans (hf5.bel.mono z1)⟩
    rcases hown5 with e | e
    · rw [e] at hg
      rcases hown4 g hg with h | h
      · have := hown g h; omega
      · omega
    · rw [e] at hg; cases hg; omega
  refine If.dec (fun hlt => ?_) fun hge => ?_
  · have hlt' : (j : Int) < (n : Int) := hlt
    have hx : l[j]? = some (l[j]'(by omega)) := List.getElem?_eq_getElem (by omega)
    generalize (l[j]'(by omega)) = y at hx
    obtain ⟨p, hp, hrow⟩ := (hr.bel B02).row encN_len hx
    subst hp
    refine IdxS.mk rfl (by omega) ⟨encP y.1, rfl, row_take hrow 12, ?_⟩
    refine LdNC.mk (belowAt hf.bel h3) (cs := encP d.1) rfl rfl ?_
    intro W3 hb3'
    refine CallK.mk (refCmp_gives y.1 d.1 W3) ?_
    rintro _ W4 ⟨rfl, hb4⟩
    have hb24 := hb3'.trans (hb4.mono hb3'.size)
    have z3 := hb3'.size; have z4 := hb4.size
    refine ⟨_, rfl, ?_⟩
    dsimp only
    by_cases hc1 : cmpP y.1 d.1 < 0
    · rw [decide_eq_true hc1, hJ]
      have B04 := B02.trans (hb24.mono B02.size)
      refine If.pos rfl ((hr.bel B04).get encN_len hn rfl hx ?_)
      refine NewSC.mk (cs := (encN y).toArray) ⟨rfl, by decide, trivial⟩ (by kernel_rfl) fun q W5 hq hqe hsz5 hb5 => ?_
      obtain ⟨a', c', W6, hrun, hs6, hf6, hown6⟩ := app_N ((hs.bel hb24).bel hb5) (by rw [List.length_take]; omega) hq
      refine ⟨_, W6, hrun, _, _, _, rfl, ?_⟩
      have z5 := hb5.size
      show kk [.slice a' (l.take j ++ [y]).length c', .int .i64 (IntKind.i64.wrap ((j : Int) + 1))] W6
      rw [nsucc (by omega)]
      refine hkk ((a', (l.take j ++ [y]).length, c'), ((j + 1 : Nat) : Int)) W6 ⟨j + 1, rfl, by omega, by rw [← (take_step hx).2]; rw [(take_step hx).2] at hs6 ⊢; exact hs6, fun g hg => ?_, fun z hz => ?_, ((hf.trans (frOf hb24)).trans (frOf hb5)).trans' hf6 fun q hq _ => hown q hq⟩ (by simp only; omega)
      · rcases hown6 g hg with h | h
        · exact hown g h
        · omega
      · rw [← (take_step hx).2] at hz
        rcases List.mem_append.1 hz with hz | hz
        · exact hall z hz
        · rw [List.mem_singleton] at hz; subst hz; exact hc1
    · rw [decide_eq_false hc1]
      exact fin W4 hb24 fun z hz => by rw [hx] at hz; cases hz; exact decide_eq_false hc1
  · have hge' : ¬ (j : Int) < (n : Int) := hge
    intro W3 hb3'
    exact fin W3 hb3' fun z hz => by have := (List.getElem?_eq_some_iff.1 hz).1; omega)
theorem with_gives {W : World} {l : List Cnt} {a : Option Addr} {n c : Nat} (hr : RdL W 14 encN a l) (hn : n = l.length) (hc : l.length ≤ c) (hlen : l.length ≤ 200) (d : Cnt) :
    Gives Try.prog 81 #[.slice a n c, .agg (encN d).toArray] W fun v W' => (∃ a' c', v = .slice a' (withC l d).length c' ∧ SlR W' 86 14 encN v (withC l d) ∧ ∀ g, v.ownBlock = some g → W.heap.size ≤ g) ∧ Below W.heap.size W W' := with_givesG hr hn hc (by omega) d
end Go.Proofs.Ytcagnabglppenaa.Sv
