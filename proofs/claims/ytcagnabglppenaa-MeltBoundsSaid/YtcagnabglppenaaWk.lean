/- SavingExact: as long as no more than K prefixes came, all is exact. -/
import Derived.Test.YtcagnabglppenaaWj
namespace Go.Proofs.Ytcagnabglppenaa.Sv
open Go Go.RowKit Go.Vc Go.Proofs.Ytcagnabglppenaa.Fs Go.Proofs.Ytcagnabglppenaa.Px Go.Proofs.Ytcagnabglppenaa.Hq

def seenStep (s : List Cnt) (i : Hq.Item) : List Cnt := if 0 < i.2 then (if placeI s i.1 < 0 then s ++ [(i.1, 0, 0)] else s) else s
def seenS (t : List Hq.Item) : List Cnt := t.foldl seenStep []
theorem seenS_snoc (t : List Hq.Item) (i : Hq.Item) : seenS (t ++ [i]) = seenStep (seenS t) i := by unfold seenS; rw [List.foldl_append]; rfl
theorem seenStep_len (s : List Cnt) (i : Hq.Item) : s.length ≤ (seenStep s i).length ∧ (seenStep s i).length ≤ s.length + 1 := by
  unfold seenStep
  split
  · split
    · simp
    · omega
  · omega
theorem seenS_len : ∀ t : List Hq.Item, (seenS t).length ≤ t.length := by
  have : ∀ (t : List Hq.Item) (s : List Cnt), (t.foldl seenStep s).length ≤ s.length + t.length := by
    intro t
    induction t with
    | nil => intro s; simp
    | cons i r ih => intro s; have h1 := ih (seenStep s i); have h2 := (seenStep_len s i).2; simp only [List.foldl_cons, List.length_cons]; omega
  intro t
  have := this t []
  simpa [seenS] using this
theorem seenS_wf (t : List Hq.Item) : ∀ c ∈ seenS t, WfN c := by
  have : ∀ (t : List Hq.Item) (s : List Cnt), (∀ c ∈ s, WfN c) → ∀ c ∈ t.foldl seenStep s, WfN c := by
    intro t
    induction t with
    | nil => intro s h; exact h
    | cons i r ih =>
      intro s h
      refine ih _ fun c hc => ?_
      unfold seenStep at hc
      split at hc
      · split at hc
        · rcases List.mem_append.1 hc with hc | hc
          · exact h c hc
          · rw [List.mem_singleton] at hc; subst hc; exact ⟨⟨Int.le_refl 0, by simp only; omega⟩, Int.le_refl 0, by simp only; omega⟩
        · exact h c hc
      · exact h c hc
  exact this t [] fun c hc => by cases hc
structure Exa (x : Sv) (t : List Hq.Item) : Prop where
  z : x.sl = 0 → (∀ p, Has x.l p ↔ Has (seenS t) p) ∧ x.l.length = (seenS t).length ∧ ∀ c ∈ x.l, c.2.2 = 0
  s : 0 < x.sl → x.k < (seenS t).length
theorem exa_new {k : Int} : Exa ⟨k, 0, 0, []⟩ [] := ⟨fun _ => ⟨fun _ => Iff.rfl, rfl, fun c hc => (by cases hc)⟩, fun h => absurd h (Int.lt_irrefl 0)⟩
theorem seen_has {s : List Cnt} {q : Pfx} {w : Int} (hw : 0 < w) (h : Has s q) : seenStep s (q, w) = s := by
  unfold seenStep
  rw [if_pos hw, if_neg (by have := placeI_has.2 h; simp only; omega)]
theorem seen_new {s : List Cnt} {q : Pfx} {w : Int} (hw : 0 < w) (h : ¬ Has s q) : seenStep s (q, w) = s ++ [(q, 0, 0)] := by
  unfold seenStep
  rw [if_pos hw, if_pos]
  have : ¬ 0 ≤ placeI s q := fun hh => h (placeI_has.1 hh)
  simp only; omega
theorem Exa.step {x : Sv} {t : List Hq.Item} (h : Exa x t) (hM : May x) {i : Hq.Item} (hi : 0 ≤ i.2) : Exa (stepR (x, t) i).1 (stepR (x, t) i).2 := by
  have hI := ins_is hM i.1 i.2
  unfold stepR
  simp only
  generalize ins x i.1 i.2 = y at hI
  obtain ⟨q, w⟩ := i
  simp only at hi hI
  have hmono := (seenStep_len (seenS t) (q, w)).1
  have hs0 := hM.s0
  cases hI with
  | over hov => simp only; rw [if_neg (by decide)]; exact h
  | zero hok h0 =>
    subst h0
    simp only
    rw [if_pos trivial]
    have e : seenS (t ++ [(q, 0)]) = seenS t := by rw [seenS_snoc]; rfl
    exact ⟨by rw [e]; exact h.z, by rw [e]; exact h.s⟩
  | more hok h0 j c hj hp =>
    simp only
    rw [if_pos trivial]
    have hw : 0 < w := by omega
    have hc := List.mem_of_getElem? hj
    have hpm := withC_perm (x.l.eraseIdx j) (q, c.2.1 + w, c.2.2)
    have hpe := erase_perm hj
    refine ⟨fun hz => ?_, fun hz => by rw [seenS_snoc]; have := h.s hz; simp only; omega⟩
    obtain ⟨z1, z2, z3⟩ := h.z hz
    have hq : Has x.l q := ⟨c, hc, hp⟩
    rw [seenS_snoc, seen_has hw ((z1 q).1 hq)]
    refine ⟨fun p => ?_, ?_, fun d hd => ?_⟩
    · rw [← z1 p]
      constructor
      · rintro ⟨d, hd, e⟩
        rcases List.mem_cons.1 (hpm.mem_iff.1 hd) with rfl | hd
        · rw [← e]; exact hq
        · exact ⟨d, List.mem_of_mem_eraseIdx hd, e⟩
      · rintro ⟨d, hd, e⟩
        rcases List.mem_cons.1 (hpe.mem_iff.2 hd) with rfl | hd
        · exact ⟨_, hpm.mem_iff.2 (List.mem_cons_self ..), by rw [← e, ← hp]⟩
        · exact ⟨d, hpm.mem_iff.2 (List.mem_cons_of_mem _ hd), e⟩
    · rw [← z2]
      have e1 := hpm.length_eq
      have e2 := hpe.length_eq
      simp only [List.length_cons] at e1 e2 ⊢
      omega
    · rcases List.mem_cons.1 (hpm.mem_iff.1 hd) with rfl | hd
      · exact z3 c hc
      · exact z3 d (List.mem_of_mem_eraseIdx hd)
  | evict hok h0 hn hk j c hj hm =>
    simp only
    rw [if_pos trivial]
    have hw : 0 < w := by omega
    have hce := hM.each c (List.mem_of_getElem? hj)
    refine ⟨fun hz => by simp only at hz; omega, fun _ => ?_⟩
    rw [seenS_snoc]
    simp only
    by_cases hz : x.sl = 0
    · obtain ⟨z1, z2, z3⟩ := h.z hz
      rw [seen_new hw (fun hh => hn ((z1 q).2 hh)), List.length_append, List.length_singleton]
      omega
    · have := h.s (by omega)
      omega
  | new hok h0 hn hk =>
    simp only
    rw [if_pos trivial]
    have hw : 0 < w := by omega
    have hpm := withC_perm x.l (q, x.sl + w, x.sl)
    refine ⟨fun hz => ?_, fun hz => by rw [seenS_snoc]; have := h.s hz; simp only; omega⟩
    simp only at hz
    obtain ⟨z1, z2, z3⟩ := h.z hz
    rw [seenS_snoc, seen_new hw (fun hh => hn ((z1 q).2 hh))]
    refine ⟨fun p => ?_, ?_, fun d hd => ?_⟩
    · constructor
      · rintro ⟨d, hd, e⟩
        rcases List.mem_cons.1 (hpm.mem_iff.1 hd) with rfl | hd
        · exact ⟨_, List.mem_append_right _ (List.mem_singleton.2 rfl), e⟩
        · obtain ⟨d', hd', e'⟩ := (z1 p).1 ⟨d, hd, e⟩
          exact ⟨d', List.mem_append_left _ hd', e'⟩
      · rintro ⟨d, hd, e⟩
        rcases List.mem_append.1 hd with hd | hd
        · obtain ⟨d', hd', e'⟩ := (z1 p).2 ⟨d, hd, e⟩
          exact ⟨d', hpm.mem_iff.2 (List.mem_cons_of_mem _ hd'), e'⟩
        · rw [List.mem_singleton] at hd
          exact ⟨_, hpm.mem_iff.2 (List.mem_cons_self ..), by rw [← e, hd]⟩
    · have e1 := hpm.length_eq
      simp only [List.length_cons] at e1
      rw [List.length_append, List.length_singleton, ← z2]
      exact e1
    · rcases List.mem_cons.1 (hpm.mem_iff.1 hd) with rfl | hd
      · exact hz
      · exact z3 d hd
theorem runR_exa {s : Sv × List Hq.Item} (h : Exa s.1 s.2) (hM : May s.1) : ∀ l : List Hq.Item, WfL l → Exa (runR s l).1 (runR s l).2
  | l, hl => by
    induction l generalizing s with
    | nil => exact h
    | cons i r ih =>
      have hi := hl i (by simp)
      exact ih (s := stepR s i) (h.step hM hi.1) (hM.ins hi.1 (ins_is hM i.1 i.2)) fun j hj => hl j (by simp [hj])
theorem exact_low {x : Sv} {t : List Hq.Item} (h : Exa x t) (hB : Bnd x t) (hz : x.sl = 0) (p : Pfx) : lowS x p = wt t p ∧ highS x p = wt t p := by
  obtain ⟨z1, z2, z3⟩ := h.z hz
  unfold lowS highS
  cases hg : getC x.l p with
  | none =>
    have h1 := hB.out p (getC_none hg)
    have h2 := (wt_nonneg hB.wf p).1
    simp only; omega
  | some c =>
    obtain ⟨hc, e⟩ := getC_some hg
    have h1 := hB.inn c hc
    have h2 := z3 c hc
    rw [e] at h1
    simp only; omega
theorem exact_law {W : World} {k : Int} {l : List Hq.Item} {a : Option Addr} {n c : Nat} (hwl : WfL l) (hr : RdL W 13 encC a l) (hn : n = l.length) (p : Pfx) :
    Gives Try.prog 15 #[.int .i64 k, .slice a n c, kv p] W fun v W' => v = .bool true ∧ Below W.heap.size W W' := F15_fn (by
  unfold F15
  obtain ⟨e66, h66⟩ := t66
  refine NewA.mk fun b5 W1 h5 hb5 hsz1 hbl1 => ?_
  have hr1 := hr.bel hbl1
  by_cases hk : k < 1 ∨ 200 < k
  · refine CallK.mk (run_out hk hr1 hn) ?_
    rintro _ W2 ⟨rfl, hb2⟩
    refine ⟨_, _, rfl, _, rfl, _, _, _, rfl, Join.use fun J hJ => ?_⟩
    have out : J true W2 := by
      rw [hJ]
      refine If.pos rfl ?_
      refine CallK.mk alive_gives ?_
      rintro _ W3 ⟨rfl, hb3⟩
      refine ⟨_, rfl, Join.use fun J1 hJ1 => If.pos rfl ?_⟩
      refine nil_ptr_eql h66 ⟨_, rfl, ?_⟩
      rw [hJ1]
      have B := hbl1.trans (hb2.mono hbl1.size)
      exact ⟨rfl, B.trans (hb3.mono B.size)⟩
    refine If.dec (fun _ => out) fun h1 => ?_
    have : decide (k > 200) = true := decide_eq_true (by omega)
    rw [this]; exact out
  have k1 : 1 ≤ k := by omega
  have k2 : k ≤ 200 := by omega
  refine CallK.mk (run_gives k1 k2 hwl hr1 hn) ?_
  rintro _ W2 ⟨b, u, S, rfl, hR2, hS, hsl, hown, hb2⟩
  have B2 : Below W.heap.size W W2 := hbl1.trans (hb2.mono hbl1.size)
  obtain ⟨au, cu, rfl⟩ := hsl.shape
  have hwt : WfL (l.take 3000) := fun i hi => hwl i (List.mem_of_mem_take hi)
  have hM : May (runK k l).1 := runR_may (may_new k1 k2) _ hwt
  obtain ⟨hB, hxk⟩ : Bnd (runK k l).1 (runK k l).2 ∧ (runK k l).1.k = k := runR_bnd (s := (⟨k, 0, 0, []⟩, [])) bnd_new (may_new k1 k2) _ hwt
  have hE : Exa (runK k l).1 (runK k l).2 := runR_exa (s := (⟨k, 0, 0, []⟩, [])) exa_new (may_new k1 k2) _ hwt
  have htl : (runK k l).2.length ≤ 3000 := by
    have := runR_len (s := (⟨k, 0, 0, []⟩, [])) (l.take 3000)
    rw [List.length_take] at this
    unfold runK
    simp only [List.length_nil] at this
    omega
  generalize (runK k l).1 = x at hR2 hM hB hxk hE
  generalize (runK k l).2 = t at hsl hB htl hE
  have hh5 := belowAt hb2 h5
  have n1 := hM.n1; have n0 := hM.n0; have s0 := hM.s0
  refine ⟨_, _, rfl, _, rfl, _, _, _, rfl, Join.use fun J hJ => ?_⟩
  refine If.dec (fun h => absurd h (by omega)) fun _ => ?_
  have : decide (k > 200) = false := decide_eq_false (by omega)
  rw [this, hJ]
  refine If.neg rfl ?_
  refine Lp.enc (fun s : (Option Addr × Nat × Nat) × Int => [.slice s.1.1 s.1.2.1 s.1.2.2, .int .i64 s.2]) (fun s t hst => by
      simp only [List.cons.injEq, Value.slice.injEq, Value.int.injEq, true_and, and_true] at hst
      exact Prod.ext (Prod.ext hst.1.1 (Prod.ext hst.1.2.1 hst.1.2.2)) hst.2)
    (fun s W' => ∃ j : Nat, s.2 = (j : Int) ∧ j ≤ t.length ∧ SlR W' 86 14 encN (.slice s.1.1 s.1.2.1 s.1.2.2) (seenS (t.take j)) ∧ (∀ g, (Value.slice s.1.1 s.1.2.1 s.1.2.2).ownBlock = some g → W2.heap.size ≤ g) ∧ Fr (fun q => W2.heap.size ≤ q) W2 W')
    (fun s _ => ((t.length : Int) + 1 - s.2).toNat) ((none, 0, 0), 0) rfl ⟨0, rfl, Nat.zero_le _, SlR.nil _ _, fun g hg => (by cases hg), Fr.refl _ _⟩ ?_
  rintro ⟨⟨a9, n9, c9⟩, s⟩ W3 kk ⟨j, hj, hjl, hs3, hown3, hf3⟩ hkk
  simp only at hj hs3 hown3
  subst hj
  have B23 := hf3.bel
  have z3 := hf3.size
  have hn9 := hs3.len
  have hsl3 := seenS_len (t.take j)
  rw [List.length_take] at hsl3
  refine AsL.mk rfl (AsI.mk (If.dec (fun hlt => ?_) fun hge => ?_))
  · have hlt' : (j : Int) < (t.length : Int) := hlt
    have hx : t[j]? = some (t[j]'(by omega)) := List.getElem?_eq_getElem (by omega)
    generalize (t[j]'(by omega)) = d at hx
    have hstep : seenS (t.take (j + 1)) = seenStep (seenS (t.take j)) d := by rw [← (take_step hx).2, seenS_snoc]
    obtain ⟨q, hq, hrow⟩ := (hsl.bel B23).rd.row encC_len hx
    subst hq
    refine IdxS.mk rfl (by omega) ⟨.int .u64 d.2, hrow 12 _ rfl, _, rfl, ?_⟩
    refine Join.use fun J2 hJ2 => ?_
    have next : ∀ (a' : Option Addr) (n' c' : Nat) (W' : World), SlR W' 86 14 encN (.slice a' n' c') (seenStep (seenS (t.take j)) d) → (∀ g, (Value.slice a' n' c').ownBlock = some g → W2.heap.size ≤ g) → Fr (fun q => W2.heap.size ≤ q) W2 W' →
        kk [.slice a' n' c', .int .i64 (IntKind.i64.wrap ((j : Int) + 1))] W' := by
      intro a' n' c' W' h1 h2 h3
      rw [nsucc (by omega)]
      exact hkk ((a', n', c'), ((j + 1 : Nat) : Int)) W' ⟨j + 1, rfl, by omega, by rw [hstep]; exact h1, h2, h3⟩ (by simp only; omega)
    have noJ : seenStep (seenS (t.take j)) d = seenS (t.take j) → ∀ W', Below W3.heap.size W3 W' → J2 false W' := fun e W' hb => by
      rw [hJ2]
      refine Join.use fun J3 hJ3 => If.neg rfl ?_
      rw [hJ3]
      exact next a9 n9 c9 W' (by rw [e]; exact hs3.bel hb) hown3 (hf3.trans (frOf hb))
    refine If.dec (fun hpos => ?_) fun hnp => noJ (by unfold seenStep; rw [if_neg hnp]) W3 (Below.refl _ _)
    refine IdxS.mk rfl (by omega) ⟨encP d.1, rfl, row_take hrow 12, ?_⟩
    refine CallK.mk (place_gives hs3.rd hn9 (by omega) d.1) ?_
    rintro _ W4 ⟨rfl, hb4⟩
    refine ⟨_, rfl, ?_⟩
    dsimp only
    by_cases hpl : placeI (seenS (t.take j)) d.1 < 0
    · rw [decide_eq_true hpl, hJ2]
      refine Join.use fun J3 hJ3 => If.pos rfl ?_
      have B24 := B23.trans (hb4.mono z3)
      obtain ⟨q', hq', hrow'⟩ := (hsl.bel B24).rd.row encC_len hx
      cases hq'
      refine IdxS.mk rfl (by omega) ⟨encP d.1, rfl, row_take hrow' 12, ?_⟩
      refine ⟨⟨rfl, by decide, trivial⟩, ?_⟩
      refine NewSC.mk (cs := (encN (d.1, 0, 0)).toArray) ⟨rfl, by decide, trivial⟩ (by kernel_rfl) fun q5 W5 hq5 hqe hsz5 hb5' => ?_
      obtain ⟨inf, hi1, hi2, hi3, hi4⟩ := i86
      have hs5 := (hs3.bel hb4).bel hb5'
      obtain ⟨v', W6, hrun, hs6, hgr, hown6⟩ := hs5.append (P := Try.prog) (ty := 50) (ys := [(d.1, 0, 0)]) (c := 1) (a := ⟨q5, 0, none⟩) encN_len encN_one t50 hi1 hi2 hi3 hi4 rfl (by decide) (cells_row (by simpa using hq5)) (by simp; omega) (by simp [maxLen]; omega)
      refine ⟨v', W6, hrun, ?_⟩
      obtain ⟨a', c', hv'⟩ := hs6.shape
      refine AsL.mk hv' ?_
      subst hv'
      have e : seenStep (seenS (t.take j)) d = seenS (t.take j) ++ [(d.1, 0, 0)] := by unfold seenStep; rw [if_pos hpos, if_pos hpl]
      rw [hJ3]
      have z4 := hb4.size; have z5 := hb5'.size
      refine next a' _ c' W6 (by rw [e]; exact hs6) (fun g hg => ?_) (((hf3.trans (frOf hb4)).trans (frOf hb5')).trans' (Fr.grown (S := fun q => (Value.slice a9 n9 c9).ownBlock = some q) hgr fun k hk => hk) fun q hq _ => hown3 q hq)
      rcases hown6 with e | e
      · rw [e] at hg; exact hown3 g hg
      · rw [e] at hg; cases hg; omega
    · rw [decide_eq_false hpl]
      exact noJ (by unfold seenStep; rw [if_pos hpos, if_neg hpl]) W4 hb4
  have hge' : ¬ (j : Int) < (t.length : Int) := hge
  rw [List.take_of_length_le (by omega)] at hs3 hn9
  refine If.dec (fun hmore => ?_) fun hless => ?_
  · -- more prefixes than K
    have hmore' : (n9 : Int) > k := hmore
    have hsp : 0 < x.sl := by
      rcases Int.lt_or_le 0 x.sl with h | h
      · exact h
      · obtain ⟨_, z2, _⟩ := hE.z (by omega)
        have := hM.len
        omega
    refine CallK.mk alive_gives ?_
    rintro _ W4 ⟨rfl, hb4⟩
    refine ⟨_, rfl, Join.use fun J4 hJ4 => If.pos rfl ?_⟩
    refine nil_ptr_neq h66 ⟨_, rfl, ?_⟩
    rw [hJ4]
    refine Join.use fun J5 hJ5 => If.pos rfl ?_
    have B24 := B23.trans (hb4.mono z3)
    refine CallK.mk (state_gives (hR2.below B24) hM) ?_
    rintro _ W5 ⟨u5, rfl, _, _, hb5'⟩
    refine ⟨.int .u64 x.sl, rfl, _, rfl, ?_⟩
    dsimp only
    rw [decide_eq_true hsp, hJ5]
    have B25 := B24.trans (hb5'.mono B24.size)
    exact ⟨rfl, B2.trans (B25.mono B2.size)⟩
  · have hless' : ¬ (n9 : Int) > k := hless
    have hz : x.sl = 0 := by
      rcases Int.lt_or_le 0 x.sl with h | h
      · have := hE.s h; omega
      · omega
    obtain ⟨_, z2, _⟩ := hE.z hz
    obtain ⟨el, eh⟩ := exact_low hE hB hz p
    refine LdNC.mk (belowAt B23 hh5) (cs := encP p) rfl rfl ?_
    refine CallK.mk (weight_gives (hsl.bel B23).rd rfl (by omega) hB.wf (by rw [← hB.n]; omega) p) ?_
    rintro _ W4 ⟨rfl, hb4⟩
    have B24 := B23.trans (hb4.mono z3)
    refine ⟨_, rfl, ?_⟩
    refine CallK.mk (state_gives (hR2.below B24) hM) ?_
    rintro _ W5 ⟨u5, rfl, hs5, _, hb5'⟩
    have B25 := B24.trans (hb5'.mono B24.size)
    obtain ⟨a5, c5, rfl⟩ := hs5.shape
    refine NewA.mk fun b12 W6 h12 hb12 hsz6 hbl6 => ?_
    refine StV.to h12 (v := svV x (.slice a5 x.l.length c5)) rfl (by decide) rfl (cs := (hdS x a5 x.l.length c5).toArray) rfl fun W7 h127 hsz7 hf7 => ?_
    have z5 := B25.size
    have f57 : Fr (fun q => W5.heap.size ≤ q) W5 W7 := (frOf hbl6).trans (hf7.mono fun q _ e => by omega)
    have B27 := B25.trans (f57.bel.mono z5)
    refine CallK.mk alive_gives ?_
    rintro _ W8 ⟨rfl, hb8⟩
    have B28 := B27.trans (hb8.mono B27.size)
    have h128 := belowAt hb8 h127
    refine ⟨_, rfl, Join.use fun J6 hJ6 => If.pos rfl ?_⟩
    refine nil_ptr_neq h66 ⟨_, rfl, ?_⟩
    rw [hJ6]
    refine Join.use fun J7 hJ7 => If.pos rfl ?_
    refine Ld1.ad h128 (u := .int .u64 x.sl) rfl ⟨_, rfl, ?_⟩
    have e1 : (x.sl == 0) = true := by rw [hz]; rfl
    dsimp only
    rw [e1, hJ7]
    refine Join.use fun J8 hJ8 => If.pos rfl ?_
    refine Ld1.ad h128 (u := .slice a5 x.l.length c5) rfl ⟨_, _, _, rfl, ?_⟩
    have e2 : ((x.l.length : Int) == (n9 : Int)) = true := by rw [hn9, z2]; simp
    show J8 ((x.l.length : Int) == (n9 : Int)) W8
    rw [e2, hJ8]
    refine Join.use fun J9 hJ9 => If.pos rfl ?_
    refine LdNC.mk (belowAt B28 hh5) (cs := encP p) rfl rfl ?_
    refine CallK.mk (low_gives (hR2.below B28) hM p) ?_
    rintro _ W9 ⟨rfl, hb9⟩
    have B29 := B28.trans (hb9.mono B28.size)
    refine ⟨_, rfl, ?_⟩
    have e3 : (lowS x p == wt t p) = true := by rw [el]; simp
    dsimp only
    rw [e3, hJ9]
    refine Join.use fun J10 hJ10 => If.pos rfl ?_
    refine LdNC.mk (belowAt B29 hh5) (cs := encP p) rfl rfl ?_
    refine CallK.mk (high_gives (hR2.below B29) p) ?_
    rintro _ W10 ⟨rfl, hb10⟩
    have B210 := B29.trans (hb10.mono B29.size)
    refine ⟨_, rfl, ?_⟩
    have e4 : (highS x p == wt t p) = true := by rw [eh]; simp
    dsimp only
    rw [e4, hJ10]
    exact ⟨rfl, B2.trans (B210.mono B2.size)⟩)
end Go.Proofs.Ytcagnabglppenaa.Sv
