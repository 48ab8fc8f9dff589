/- melt: the law MeltExact. -/
import Derived.Test.YtcagnabglppenaaMg
import Derived.Test.YtcagnabglppenaaWk
namespace Go.Proofs.Ytcagnabglppenaa.Me
open Go Go.RowKit Go.Vc Go.Proofs.Ytcagnabglppenaa.Fs Go.Proofs.Ytcagnabglppenaa.Px Go.Proofs.Ytcagnabglppenaa.Hq Go.Proofs.Ytcagnabglppenaa.Sv

/-! ### Plain -/
theorem nodup_sub {l d : List Pfx} (hn : l.Nodup) (hs : ∀ x ∈ l, x ∈ d) : l.length ≤ d.length := by
  induction l generalizing d with
  | nil => exact Nat.zero_le _
  | cons x l ih =>
    have hn' := List.nodup_cons.1 hn
    obtain ⟨d1, d2, rfl⟩ := List.append_of_mem (hs x List.mem_cons_self)
    have := ih (d := d1 ++ d2) hn'.2 fun y hy => by
      have hyx : y ≠ x := fun e => hn'.1 (e ▸ hy)
      have := hs y (List.mem_cons_of_mem _ hy)
      simp only [List.mem_append, List.mem_cons] at this ⊢
      rcases this with h | h | h
      · exact .inl h
      · exact absurd h hyx
      · exact .inr h
    simp only [List.length_append, List.length_cons] at this ⊢
    omega
theorem asc_nodup {l : List Cnt} (h : Asc l) : (l.map (·.1)).Nodup := by
  rw [List.Nodup, List.pairwise_map]
  exact h.imp fun {a b} hab e => by rw [e] at hab; exact lt_irr _ hab
theorem seenS_nodup (t : List Hq.Item) : ((seenS t).map (·.1)).Nodup := by
  have : ∀ (t : List Hq.Item) (s : List Cnt), (s.map (·.1)).Nodup → ((t.foldl seenStep s).map (·.1)).Nodup := by
    intro t
    induction t with
    | nil => intro s h; exact h
    | cons i t ih =>
      intro s h
      rw [List.foldl_cons]
      refine ih _ ?_
      unfold seenStep
      split
      · split
        · rename_i hp
          rw [List.map_append, List.nodup_append]
          refine ⟨h, by simp, fun x hx y hy e => ?_⟩
          simp only [List.map_cons, List.map_nil, List.mem_singleton] at hy
          subst hy; subst e
          obtain ⟨c, hc, e⟩ := List.mem_map.1 hx
          have := placeI_has.2 (⟨c, hc, e⟩ : Has s _)
          omega
        · exact h
      · exact h
  exact this t [] List.nodup_nil
theorem wt_app (l m : List Hq.Item) (p : Pfx) : wt (l ++ m) p = wt l p + wt m p := by
  induction l with
  | nil => simp [wt]
  | cons x l ih => simp only [List.cons_append, wt, ih]; omega
theorem tot_app (l m : List Hq.Item) : tot (l ++ m) = tot l + tot m := by
  induction l with
  | nil => simp [tot]
  | cons x l ih => simp only [List.cons_append, tot, ih]; omega
theorem WfL.app {l m : List Hq.Item} (h : WfL l) (k : WfL m) : WfL (l ++ m) := fun i hi => (List.mem_append.1 hi).elim (h i) (k i)
theorem seenS_has {t : List Hq.Item} (hw : WfL t) (p : Pfx) : Has (seenS t) p ↔ 0 < wt t p := by
  obtain ⟨n, hn⟩ : ∃ n, t.length = n := ⟨_, rfl⟩
  induction n generalizing t with
  | zero =>
    obtain rfl := List.eq_nil_of_length_eq_zero hn
    exact ⟨fun ⟨c, hc, _⟩ => (by cases hc), fun h => (by simp [wt] at h)⟩
  | succ n ih =>
    obtain ⟨t, i, rfl⟩ : ∃ r x, t = r ++ [x] := by
      rcases List.eq_nil_or_concat t with rfl | ⟨r, x, rfl⟩
      · simp at hn
      · exact ⟨r, x, by simp⟩
    have hw1 : WfL t := fun j hj => hw j (List.mem_append_left _ hj)
    have hi := hw i (List.mem_append_right _ (List.mem_singleton_self _))
    have h0 := (wt_nonneg hw1 p).1
    rw [seenS_snoc, wt_snoc]
    have ih := ih hw1 (by simpa using hn)
    by_cases hpos : 0 < i.2
    · by_cases hh : Has (seenS t) i.1
      · have := seen_has (q := i.1) (w := i.2) hpos hh
        rw [show ((i.1, i.2) : Hq.Item) = i from rfl] at this
        rw [this]
        by_cases e : isP i.1 p = true
        · rw [if_pos e]
          have e' := isP_iff.1 e
          subst e'
          exact ⟨fun _ => by omega, fun _ => hh⟩
        · rw [if_neg e]; rw [ih]; omega
      · have := seen_new (q := i.1) (w := i.2) hpos hh
        rw [show ((i.1, i.2) : Hq.Item) = i from rfl] at this
        rw [this]
        by_cases e : isP i.1 p = true
        · rw [if_pos e]
          exact ⟨fun _ => by omega, fun _ => ⟨_, List.mem_append_right _ (List.mem_singleton_self _), isP_iff.1 e⟩⟩
        · rw [if_neg e, Int.add_zero, ← ih]
          refine ⟨fun ⟨c, hc, ec⟩ => ?_, fun ⟨c, hc, ec⟩ => ⟨c, List.mem_append_left _ hc, ec⟩⟩
          rcases List.mem_append.1 hc with hc | hc
          · exact ⟨c, hc, ec⟩
          · rw [List.mem_singleton] at hc; subst hc; exact absurd (isP_iff.2 ec) e
    · have hs : seenStep (seenS t) i = seenS t := by unfold seenStep; rw [if_neg hpos]
      rw [hs, ih]
      split <;> omega
theorem asc_ext : ∀ {l d : List Cnt}, Asc l → Asc d → (∀ c, c ∈ l ↔ c ∈ d) → l = d
  | [], [], _, _, _ => rfl
  | [], b :: d, _, _, h => by have := (h b).2 List.mem_cons_self; cases this
  | a :: l, [], _, _, h => by have := (h a).1 List.mem_cons_self; cases this
  | a :: l, b :: d, hl, hd, h => by
    have hl' := List.pairwise_cons.1 hl
    have hd' := List.pairwise_cons.1 hd
    have hab : a = b := by
      rcases List.mem_cons.1 ((h a).1 List.mem_cons_self) with e | e
      · exact e
      · rcases List.mem_cons.1 ((h b).2 List.mem_cons_self) with e' | e'
        · exact e'.symm
        · exact absurd (lt_tr (hl'.1 b e') (hd'.1 a e)) (lt_irr _)
    subst hab
    rw [asc_ext hl'.2 hd'.2 fun c => ⟨fun hc => ?_, fun hc => ?_⟩]
    · rcases List.mem_cons.1 ((h c).1 (List.mem_cons_of_mem _ hc)) with e | e
      · subst e; exact absurd (hl'.1 c hc) (lt_irr _)
      · exact e
    · rcases List.mem_cons.1 ((h c).2 (List.mem_cons_of_mem _ hc)) with e | e
      · subst e; exact absurd (hd'.1 c hc) (lt_irr _)
      · exact e
theorem has_len {l d : List Cnt} (hl : (l.map (·.1)).Nodup) (hd : (d.map (·.1)).Nodup) (h : ∀ p, Has l p ↔ Has d p) : l.length = d.length := by
  have sub : ∀ {l d : List Cnt}, (∀ p, Has l p → Has d p) → ∀ x ∈ l.map (·.1), x ∈ d.map (·.1) := fun h x hx => by
    obtain ⟨c, hc, e⟩ := List.mem_map.1 hx
    obtain ⟨d, hd, e'⟩ := h x ⟨c, hc, e⟩
    exact List.mem_map.2 ⟨d, hd, e'⟩
  have h1 := nodup_sub hl (sub fun p hp => (h p).1 hp)
  have h2 := nodup_sub hd (sub fun p hp => (h p).2 hp)
  simp only [List.length_map] at h1 h2
  omega
/-- A summary of weights. -/
structure Of' (x : Sv) (t : List Hq.Item) : Prop where
  may : May x
  bnd : Bnd x t
  exa : Exa x t
theorem exact_mrg {xs xt xb : Sv} {L M : List Hq.Item} (hs : Of' xs L) (ht : Of' xt M) (hb : Of' xb (L ++ M)) (k1 : xs.k = xb.k) (k2 : xt.k = xb.k) :
    (mrg xs xt).2 = 0 ∧ (0 < xb.sl → 0 < (mrg xs xt).1.sl) ∧ (¬ 0 < xb.sl → (mrg xs xt).1 = xb) := by
  have hn : xb.n = xs.n + xt.n := by rw [hb.bnd.n, hs.bnd.n, ht.bnd.n, tot_app]
  have bn := hb.may.n1
  have ho : ¬ xs.n > 4611686018427387904 - xt.n := by omega
  have hN := near_zip hs.may ht.may (k1.trans k2.symm) ho
  rw [mrg_ok hs.may ht.may (k1.trans k2.symm) ho]
  obtain ⟨hM, _, _, hsl, _, _, hlong, hshort⟩ := hN.cut
  have hz := zip_zip xs.sl xt.sl xs.l xt.l hs.may.asc ht.may.asc
  have hza := hz.asc hs.may.asc ht.may.asc
  have s0 := hs.may.s0; have t0 := ht.may.s0; have b0 := hb.may.s0
  have hwL := hs.bnd.wf; have hwM := ht.bnd.wf
  have both : xs.sl = 0 → xt.sl = 0 → (∀ p, Has (zipS xs xt).l p ↔ Has (seenS (L ++ M)) p) ∧ (zipS xs xt).l.length = (seenS (L ++ M)).length := fun e1 e2 => by
    have hh : ∀ p, Has (zipS xs xt).l p ↔ Has (seenS (L ++ M)) p := fun p => by
      rw [seenS_has (hb.bnd.wf), wt_app]
      have a1 := (hs.exa.z e1).1 p
      have a2 := (ht.exa.z e2).1 p
      rw [seenS_has hwL] at a1
      rw [seenS_has hwM] at a2
      have w1 := (wt_nonneg hwL p).1
      have w2 := (wt_nonneg hwM p).1
      have h3 : Has (zipS xs xt).l p ↔ Has xs.l p ∨ Has xt.l p := by
        rcases hz.get hs.may.asc ht.may.asc p with ⟨g1, g2, g3⟩ | ⟨c, g1, g2, g3⟩
        · exact ⟨fun h => absurd h (getC_has.1 g1), fun h => h.elim (fun h => absurd h (getC_has.1 g2)) fun h => absurd h (getC_has.1 g3)⟩
        · refine ⟨fun _ => ?_, fun _ => ⟨c, (getC_some g1).1, (getC_some g1).2⟩⟩
          obtain ⟨hc1, hc2⟩ := getC_some g1
          rcases hz.from c hc1 with ⟨a, ha, e⟩ | ⟨a, ha, e⟩
          · exact .inl ⟨a, ha, e.trans hc2⟩
          · exact .inr ⟨a, ha, e.trans hc2⟩
      rw [h3, a1, a2]; omega
    exact ⟨hh, has_len (asc_nodup hza) (seenS_nodup _) hh⟩
  refine ⟨rfl, fun hpos => ?_, fun hnp => ?_⟩
  · dsimp only
    by_cases e : xs.sl = 0 ∧ xt.sl = 0
    · have hl := (both e.1 e.2).2
      have := hb.exa.s hpos
      refine hlong ?_
      have hk : (zipS xs xt).k = xb.k := k1
      omega
    · have : (zipS xs xt).sl = xs.sl + xt.sl := rfl
      omega
  · dsimp only
    have e0 : xb.sl = 0 := by omega
    obtain ⟨z1, z2, z3⟩ := hb.exa.z e0
    have hbl := hb.may.len
    have e1 : xs.sl = 0 := by
      by_cases h : 0 < xs.sl
      · have h1 := hs.exa.s h
        have h2 := nodup_sub (seenS_nodup L) (d := (seenS (L ++ M)).map (·.1)) fun x hx => by
          obtain ⟨c, hc, e⟩ := List.mem_map.1 hx
          have : Has (seenS (L ++ M)) x := by
            rw [seenS_has hb.bnd.wf, wt_app]
            have := (seenS_has hwL x).1 ⟨c, hc, e⟩
            have := (wt_nonneg hwM x).1
            omega
          obtain ⟨d, hd, e'⟩ := this
          exact List.mem_map.2 ⟨d, hd, e'⟩
        simp only [List.length_map] at h2
        omega
      · omega
    have e2 : xt.sl = 0 := by
      by_cases h : 0 < xt.sl
      · have h1 := ht.exa.s h
        have h2 := nodup_sub (seenS_nodup M) (d := (seenS (L ++ M)).map (·.1)) fun x hx => by
          obtain ⟨c, hc, e⟩ := List.mem_map.1 hx
          have : Has (seenS (L ++ M)) x := by
            rw [seenS_has hb.bnd.wf, wt_app]
            have := (seenS_has hwM x).1 ⟨c, hc, e⟩
            have := (wt_nonneg hwL x).1
            omega
          obtain ⟨d, hd, e'⟩ := this
          exact List.mem_map.2 ⟨d, hd, e'⟩
        simp only [List.length_map] at h2
        omega
      · omega
    obtain ⟨hh, hl⟩ := both e1 e2
    have hk : (zipS xs xt).k = xb.k := k1
    rw [hshort (by omega)]
    have hst : (zipS xs xt).sl = 0 := by show xs.sl + xt.sl = 0; omega
    -- each count is the weight
    have one : ∀ c ∈ (zipS xs xt).l, c.2.1 = wt (L ++ M) c.1 ∧ c.2.2 = 0 := fun c hc => by
      have hg : getC (zipS xs xt).l c.1 = some c := by
        cases hg : getC (zipS xs xt).l c.1 with
        | none => exact absurd ⟨c, hc, rfl⟩ (getC_has.1 hg)
        | some d => rw [hza.uniq (getC_some hg).1 hc (getC_some hg).2]
      rcases hz.get hs.may.asc ht.may.asc c.1 with ⟨g1, _, _⟩ | ⟨d, g1, g2, g3⟩
      · have g1' : getC (zipS xs xt).l c.1 = none := g1
        rw [hg] at g1'; cases g1'
      · have g1' : getC (zipS xs xt).l c.1 = some d := g1
        rw [hg] at g1'; cases g1'
        have x1 := exact_low hs.exa hs.bnd e1 c.1
        have x2 := exact_low ht.exa ht.bnd e2 c.1
        rw [lo_eq, hi_eq] at x1 x2
        rw [wt_app]; omega
    have two : ∀ c ∈ xb.l, c.2.1 = wt (L ++ M) c.1 ∧ c.2.2 = 0 := fun c hc => by
      have h1 := z3 c hc
      have h2 := hb.bnd.inn c hc
      exact ⟨by omega, h1⟩
    have pe : ∀ {c d : Cnt}, c.1 = d.1 → c.2.1 = d.2.1 → c.2.2 = d.2.2 → c = d := fun h1 h2 h3 => Prod.ext h1 (Prod.ext h2 h3)
    have hle : (zipS xs xt).l = xb.l := asc_ext hza hb.may.asc fun c => ⟨fun hc => ?_, fun hc => ?_⟩
    · exact Sv.eq hk hn.symm (by rw [hst, e0]) hle
    · obtain ⟨d, hd, e⟩ := (z1 c.1).2 ((hh c.1).1 ⟨c, hc, rfl⟩)
      have o1 := one c hc
      have o2 := two d hd
      rw [e] at o2
      rw [pe (c := c) (d := d) e.symm (o1.1.trans o2.1.symm) (o1.2.trans o2.2.symm)]; exact hd
    · obtain ⟨d, hd, e⟩ := (hh c.1).2 ((z1 c.1).1 ⟨c, hc, rfl⟩)
      have o1 := two c hc
      have o2 := one d hd
      rw [e] at o2
      rw [pe (c := c) (d := d) e.symm (o1.1.trans o2.1.symm) (o1.2.trans o2.2.symm)]; exact hd

/-! ### The walk -/
section
variable {S : Nat → Prop} {W0 W : World} {rs : List Res} {kp : List PanicEntry → World → Prop} {k : Value → World → Prop}
theorem _root_.Go.Vc.Ow.insert {b : Nat} {T : Nat → Prop} {x : Sv} (h : Ow S W0 W rs) (i : Nat) (hi : rs[i]? = some (.sum b T x)) (hM : May x) (p : Pfx) (w : Int) (hw : 0 ≤ w ∧ w < 18446744073709551616)
    (hk : ∀ W' T', Ow S W0 W' (rs.set i (.sum b T' (ins x p w).1)) → k (.int .i64 (ins x p w).2) W') : CallK Try.prog 49 #[ptr b, kv p, .int .u64 w] W kp k :=
  CallK.mk (insert_gives (h.get i hi) hM p w hw) fun v W' hv => by
    obtain ⟨rfl, hR, hf⟩ := hv
    exact hk W' _ (h.upd hi hf (.sum b (Hq.grow T W W') (ins x p w).1) hR fun b hb => hb)
theorem _root_.Go.Vc.Ow.state {b : Nat} {T : Nat → Prop} {x : Sv} (h : Ow S W0 W rs) (i : Nat) (hi : rs[i]? = some (.sum b T x)) (hM : May x)
    (hk : ∀ a c W', Ow S W0 W' (.sl 86 14 encN (.slice a x.l.length c) x.l :: rs) → k (.agg (hdS x a x.l.length c).toArray) W') : CallK Try.prog 50 #[ptr b] W kp k :=
  CallK.mk (state_gives (h.get i hi) hM) fun v W' hv => by
    obtain ⟨u, rfl, hs, ho, hb⟩ := hv
    obtain ⟨a, c, rfl⟩ := hs.shape
    exact hk a c W' (h.newsl hb hs ho)
theorem _root_.Go.Vc.Ow.newSum {n : Int} (h : Ow S W0 W rs) (h1 : 1 ≤ n) (h2 : n ≤ 200) (hk : ∀ b T W', Ow S W0 W' (.sum b T ⟨n, 0, 0, []⟩ :: rs) → k (ptr b) W') : CallK Try.prog 46 #[.int .i64 n] W kp k :=
  CallK.mk (new_gives h1 h2) fun v W' hv => by
    obtain ⟨b, rfl, hR, hb⟩ := hv
    exact hk b _ W' (h.push hb (.sum b (Hq.grow (fun _ => False) W W') ⟨n, 0, 0, []⟩) hR fun b hb => hb.resolve_left id)
end
theorem Of'.new {k : Int} (h1 : 1 ≤ k) (h2 : k ≤ 200) : Of' ⟨k, 0, 0, []⟩ [] := ⟨may_new h1 h2, bnd_new, exa_new⟩
theorem Of'.step {x : Sv} {t : List Hq.Item} (h : Of' x t) {i : Hq.Item} (hi : 0 ≤ i.2 ∧ i.2 < 18446744073709551616) (h0 : (ins x i.1 i.2).2 = 0) : Of' (ins x i.1 i.2).1 (t ++ [i]) := by
  have h1 := h.bnd.step h.may hi
  have h2 := h.exa.step h.may (i := i) hi.1
  have e : stepR (x, t) i = ((ins x i.1 i.2).1, t ++ [i]) := by unfold stepR; simp only; rw [if_pos h0]
  rw [e] at h1 h2
  exact ⟨h.may.ins hi.1 (ins_is h.may i.1 i.2), h1, h2⟩
theorem exact_law' {W : World} {k : Int} {l m : List Hq.Item} {a a' : Option Addr} {n c n' c' : Nat} (hwl : WfL l) (hwm : WfL m) (hr : RdL W 13 encC a l) (hn : n = l.length) (hr' : RdL W 13 encC a' m) (hn' : n' = m.length) :
    Gives Try.prog 17 #[.int .i64 k, .slice a n c, .slice a' n' c'] W fun v W' => v = .bool true ∧ Below W.heap.size W W' := F17_fn (by
  unfold F17
  subst hn hn'
  have hS := Ow.start NoS W
  obtain ⟨e66, h66⟩ := t66
  by_cases hk : k < 1 ∨ 200 < k
  · refine CallK.mk (new_out hk) ?_
    rintro _ W1 ⟨rfl, e1⟩
    obtain rfl := e1.symm
    refine AsP.mk (CallK.mk (new_out hk) ?_)
    rintro _ W1 ⟨rfl, e1⟩
    obtain rfl := e1.symm
    refine AsP.mk (CallK.mk (new_out hk) ?_)
    rintro _ W1 ⟨rfl, e1⟩
    obtain rfl := e1.symm
    refine AsP.mk (nil_ptr_eql h66 (AsB.mk ?_))
    refine Join.use fun J hJ => If.pos rfl ?_
    rw [hJ]; clear hJ
    refine Join.use fun J hJ => If.pos rfl ?_
    rw [hJ]; clear hJ
    refine If.pos rfl ?_
    refine hS.callv aliveM_gives fun W2 hS => AsB.mk (Join.use fun J hJ => If.pos rfl ?_)
    refine Join.use fun J3 hJ3 => ?_
    refine If.dec (fun h => ?_) fun h => ?_
    · rw [hJ3, hJ]; exact ⟨rfl, hS.bel⟩
    · rw [hJ3, hJ]; exact ⟨by rw [decide_eq_true (by omega : k > 200)], hS.bel⟩
  have k1 : 1 ≤ k := by omega
  have k2 : k ≤ 200 := by omega
  refine hS.newSum k1 k2 fun bs Ts W1 hS => AsP.mk (hS.newSum k1 k2 fun bt Tt W2 hS => AsP.mk (hS.newSum k1 k2 fun bb Tb W3 hS => AsP.mk ?_))
  refine nil_ptr_eql h66 (AsB.mk (Join.use fun J hJ => If.neg rfl ?_))
  refine nil_ptr_eql h66 (AsB.mk ?_)
  rw [hJ]; clear hJ
  refine Join.use fun J hJ => If.neg rfl ?_
  refine nil_ptr_eql h66 (AsB.mk ?_)
  rw [hJ]; clear hJ
  refine If.neg rfl ?_
  have out : ∀ (W' : World) (rs : List Res), Ow NoS W W' rs → CallK Try.prog 38 #[] W' (fun _ _ => False) fun u W_1 => AsB u fun b => (fun v W' => v = Value.bool true ∧ Below W.heap.size W W') (.bool b) W_1 :=
    fun W' rs hS => hS.callv aliveM_gives fun W2 hS => AsB.mk ⟨rfl, hS.bel⟩
  refine Lp.of (fun s : Nat × Sv × (Nat → Prop) × (Nat → Prop) => [.bool false, .int .i64 (s.1 : Int)])
    (fun s W' => s.1 ≤ l.length ∧ s.1 ≤ 500 ∧ Of' s.2.1 (l.take s.1) ∧ s.2.1.k = k ∧ Ow NoS W W' [.sum bb s.2.2.1 s.2.1, .sum bt Tt ⟨k, 0, 0, []⟩, .sum bs s.2.2.2 s.2.1])
    (fun s => l.length - s.1) (0, ⟨k, 0, 0, []⟩, Tb, Ts) rfl ⟨Nat.zero_le _, Nat.zero_le _, Of'.new k1 k2, rfl, hS⟩ ?_
  rintro ⟨j, x, Tb, Ts⟩ W4 kk ⟨hj, hj5, hO, hxk, hS⟩ hkk
  dsimp only at hj hj5 hO hxk hS hkk
  refine AsB.mk (AsI.mk (Join.use fun J hJ => ?_))
  have fin : J false W4 := by
    rw [hJ]; clear hJ
    refine If.neg rfl ?_
    refine Lp.of (fun s : Nat × (Sv × Sv) × (Nat → Prop) × (Nat → Prop) => [.bool false, .int .i64 (s.1 : Int)])
      (fun s W' => s.1 ≤ m.length ∧ s.1 ≤ 500 ∧ Of' s.2.1.1 (m.take s.1) ∧ Of' s.2.1.2 (l.take j ++ m.take s.1) ∧ s.2.1.1.k = k ∧ s.2.1.2.k = k ∧ Ow NoS W W' [.sum bb s.2.2.1 s.2.1.2, .sum bt s.2.2.2 s.2.1.1, .sum bs Ts x])
      (fun s => m.length - s.1) (0, (⟨k, 0, 0, []⟩, x), Tb, Tt) rfl ⟨Nat.zero_le _, Nat.zero_le _, Of'.new k1 k2, by dsimp only; rw [List.take_zero, List.append_nil]; exact hO, rfl, hxk, hS⟩ ?_
    rintro ⟨i, ⟨xt, xb⟩, Tb', Tt'⟩ W5 kk2 ⟨hi, hi5, hOt, hOb, hkt, hkb, hS⟩ hkk2
    dsimp only at hi hi5 hOt hOb hkt hkb hS hkk2
    refine AsB.mk (AsI.mk (Join.use fun J hJ => ?_))
    have fin2 : J false W5 := by
      rw [hJ]; clear hJ
      refine If.neg rfl ?_
      obtain ⟨he, hpos, hzero⟩ := exact_mrg hO hOt hOb (hxk.trans hkb.symm) (hkt.trans hkb.symm)
      refine hS.state 2 rfl hO.may fun a1 c1 W6 hS => hS.state 2 rfl hOt.may fun a2 c2 W7 hS => ?_
      refine hS.callMrg (merge_gives hO.may.wf hOt.may.wf (hS.rd 1 rfl) rfl (hS.rd 0 rfl) rfl) (x := (mrg x xt).1) (e := 0) (by rw [← he]) fun az cz W8 hS => AsT2.mk (AsI.mk ?_)
      refine hS.new fun b12 W9 hS => hS.stw 0 rfl rfl rfl rfl fun W10 hS => ?_
      refine hS.state 4 rfl hOb.may fun ab cb W11 hS => ?_
      refine hS.new fun b14 W12 hS => hS.stw 0 rfl rfl rfl rfl fun W13 hS => ?_
      refine hS.ldA 0 rfl (u := .int .u64 xb.sl) rfl (AsI.mk ?_)
      refine If.dec (fun hp => ?_) fun hnp => ?_
      · refine hS.callv aliveM_gives fun W14 hS => AsB.mk (Join.use fun J hJ => If.pos rfl ?_)
        rw [hJ]; clear hJ
        refine Join.use fun J hJ => If.pos rfl ?_
        refine hS.ldA 2 rfl (u := .int .u64 (mrg x xt).1.sl) rfl (AsI.mk ?_)
        rw [hJ]
        exact ⟨by rw [decide_eq_true (hpos hp)], hS.bel⟩
      · have e := hzero hnp
        rw [e] at hS
        refine hS.callv aliveM_gives fun W14 hS => AsB.mk (Join.use fun J hJ => If.pos rfl ?_)
        rw [hJ]; clear hJ
        refine Join.use fun J hJ => If.pos rfl ?_
        refine hS.ldw 2 rfl rfl (hS.ldw 0 rfl rfl ?_)
        have hl := May.l200 hOb.may
        refine hS.call (same_gives (x := xb) (y := xb) hOb.may.wf.l hOb.may.wf.l (hS.rd 3 rfl) rfl (hS.rd 1 rfl) rfl (by omega)) ?_
        rintro _ W15 ⟨r, rfl, hr⟩ hS
        obtain rfl : r = true := hr.2 rfl
        refine AsB.mk ?_
        rw [hJ]
        exact ⟨rfl, hS.bel⟩
    refine If.dec (fun hlt => ?_) fun _ => fin2
    have hlt' : i < m.length := by have : (i : Int) < (m.length : Int) := hlt; omega
    by_cases h5 : (i : Int) < 500
    · have : decide ((i : Int) < 500) = true := decide_eq_true h5
      rw [this, hJ]; clear hJ
      refine If.pos rfl (hS.any fun W6 hS => ?_)
      obtain ⟨q, rfl, hrow⟩ := (hr'.bel hS.bel).row encC_len (List.getElem?_eq_getElem hlt')
      have hmem := hwm _ (List.getElem_mem hlt')
      have htk : m.take (i + 1) = m.take i ++ [m[i]] := List.take_succ_eq_append_getElem hlt'
      generalize m[i] = d at *
      refine IdxS.mk rfl hlt' ⟨encP d.1, rfl, row_take hrow 12, ?_⟩
      refine IdxS.mk rfl hlt' ⟨.int .u64 d.2, hrow 12 _ rfl, _, rfl, ?_⟩
      refine hS.insert 1 rfl hOt.may d.1 d.2 hmem fun W7 Tt2 hS => AsI.mk (Join.use fun J hJ => ?_)
      refine If.bne (fun hne => ?_) fun h0 => ?_
      · rw [hJ]; exact If.pos rfl (out _ _ hS)
      · obtain ⟨q', e', hrow⟩ := (hr'.bel hS.bel).row encC_len (j := i) (x := d) (by
          have := congrArg (fun z => z[i]?) htk
          simp only [List.getElem?_take_of_lt (Nat.lt_succ_self i)] at this
          rw [this, List.getElem?_append_right (by simp; omega)]
          simp [Nat.min_eq_left (Nat.le_of_lt hlt')])
        cases e'
        refine IdxS.mk rfl hlt' ⟨encP d.1, rfl, row_take hrow 12, ?_⟩
        refine IdxS.mk rfl hlt' ⟨.int .u64 d.2, hrow 12 _ rfl, _, rfl, ?_⟩
        refine hS.insert 0 rfl hOb.may d.1 d.2 hmem fun W8 Tb2 hS => AsI.mk ?_
        by_cases hb0 : (ins xb d.1 d.2).2 = 0
        · have : ((ins xb d.1 d.2).2 != 0) = false := by rw [hb0]; rfl
          rw [this, hJ]
          refine If.neg rfl ?_
          rw [nsucc (by omega)]
          refine hkk2 (i + 1, ((ins xt d.1 d.2).1, (ins xb d.1 d.2).1), Tb2, Tt2) W8 ⟨hlt', by dsimp only; omega, ?_, ?_, (ins_k hOt.may _ _).trans hkt, (ins_k hOb.may _ _).trans hkb, hS⟩ (by dsimp only; omega)
          · dsimp only; rw [htk]; exact hOt.step hmem h0
          · dsimp only; rw [htk, ← List.append_assoc]; exact hOb.step hmem hb0
        · have : ((ins xb d.1 d.2).2 != 0) = true := by simpa using hb0
          rw [this, hJ]
          exact If.pos rfl (out _ _ hS)
    · have : decide ((i : Int) < 500) = false := decide_eq_false h5
      rw [this]; exact fin2
  refine If.dec (fun hlt => ?_) fun _ => fin
  have hlt' : j < l.length := by have : (j : Int) < (l.length : Int) := hlt; omega
  by_cases h5 : (j : Int) < 500
  · have : decide ((j : Int) < 500) = true := decide_eq_true h5
    rw [this, hJ]; clear hJ
    refine If.pos rfl (hS.any fun W6 hS => ?_)
    obtain ⟨q, rfl, hrow⟩ := (hr.bel hS.bel).row encC_len (List.getElem?_eq_getElem hlt')
    have hmem := hwl _ (List.getElem_mem hlt')
    have htk : l.take (j + 1) = l.take j ++ [l[j]] := List.take_succ_eq_append_getElem hlt'
    have hget : l[j]? = some l[j] := List.getElem?_eq_getElem hlt'
    generalize l[j] = d at *
    refine IdxS.mk rfl hlt' ⟨encP d.1, rfl, row_take hrow 12, ?_⟩
    refine IdxS.mk rfl hlt' ⟨.int .u64 d.2, hrow 12 _ rfl, _, rfl, ?_⟩
    refine hS.insert 2 rfl hO.may d.1 d.2 hmem fun W7 Ts2 hS => AsI.mk (Join.use fun J hJ => ?_)
    refine If.bne (fun hne => ?_) fun h0 => ?_
    · rw [hJ]; exact If.pos rfl (out _ _ hS)
    · obtain ⟨q', e', hrow⟩ := (hr.bel hS.bel).row encC_len hget
      cases e'
      refine IdxS.mk rfl hlt' ⟨encP d.1, rfl, row_take hrow 12, ?_⟩
      refine IdxS.mk rfl hlt' ⟨.int .u64 d.2, hrow 12 _ rfl, _, rfl, ?_⟩
      refine hS.insert 0 rfl hO.may d.1 d.2 hmem fun W8 Tb2 hS => AsI.mk ?_
      have h0' : (ins x d.1 d.2).2 = 0 := h0
      have : ((ins x d.1 d.2).2 != 0) = false := by rw [h0']; rfl
      rw [this, hJ]
      refine If.neg rfl ?_
      rw [nsucc (by omega)]
      refine hkk (j + 1, (ins x d.1 d.2).1, Tb2, Ts2) W8 ⟨hlt', by dsimp only; omega, ?_, (ins_k hO.may _ _).trans hxk, hS⟩ (by dsimp only; omega)
      dsimp only; rw [htk]; exact hO.step hmem h0'
  · have : decide ((j : Int) < 500) = false := decide_eq_false h5
    rw [this]; exact fin)
end Go.Proofs.Ytcagnabglppenaa.Me
