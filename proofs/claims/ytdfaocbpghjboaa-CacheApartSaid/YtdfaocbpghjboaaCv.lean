/- The laws CacheKeeps and CacheOrder. -/
import Derived.Test.YtdfaocbpghjboaaCt
namespace Go.Proofs.Ytdfaocbpghjboaa.Ch
open Go Go.RowKit Go.Vc Go.Proofs.Ytdfaocbpghjboaa.Fs

theorem wf_old {W : World} {t : Tm} (h : RdT W t) (hne : t.1.2.2 ≠ []) {b : Addr} (hb : t.2.1 = some b) : b.block < W.heap.size := by
  cases hl : t.1.2.2 with
  | nil => exact absurd hl hne
  | cons f fs =>
    have h2 := h.2 b hb
    rw [hl] at h2
    exact row_cell h2 (i := 0) (u := .int .i64 f.1) rfl
/-- fill: some cache. -/
theorem fill_gives {W : World} {l : List Hd} {a : Option Addr} {n c : Nat} (hr : RdL W 4 encH a l) (hn : n = l.length) (hw : ∀ h ∈ l, WfD W h) :
    Gives Try.prog 21 #[.slice a n c] W fun v W' => ∃ q o N kv, v = pt q ∧ GoodE (er kv) ∧ Ow NoS W W' (caL q o N kv) := F21_fn (by
  unfold F21
  subst hn
  refine (Ow.start NoS W).cnew fun q W1 hS => AsP.mk ?_
  refine Lp.of (fun s : Nat × Option Nat × (Nat → Prop) × List (Pl × Tm) => [.int .i64 (s.1 : Int)]) (fun s W' => s.1 ≤ l.length ∧ s.1 ≤ 300 ∧ GoodE (er s.2.2.2) ∧ Ow NoS W W' (caL q s.2.1 s.2.2.1 s.2.2.2 ++ [])) (fun s => l.length - s.1) (0, none, fun _ => False, []) rfl ⟨Nat.zero_le _, Nat.zero_le _, goodNil, hS⟩ ?_
  rintro ⟨j, o, N, kv⟩ W2 k ⟨hj, hj3, hG, hS⟩ hk
  dsimp only at hj hj3 hG hS hk ⊢
  refine AsI.mk (Join.use fun J hJ => ?_)
  have fin : J false W2 := by
    rw [hJ]; dsimp only
    exact If.neg rfl ⟨q, o, N, kv, rfl, hG, hS⟩
  refine If.dec (fun hlt => ?_) fun _ => fin
  by_cases h300 : (j : Int) < 300
  · rw [decide_eq_true h300, hJ]; dsimp only
    have hlt' : j < l.length := by have : (j : Int) < (l.length : Int) := hlt; omega
    have ra := List.getElem?_eq_getElem hlt'
    generalize l[j] = x at ra
    obtain ⟨hwt, hd, hid⟩ := hw x (List.mem_of_getElem? ra)
    refine If.pos rfl ((hr.bel hS.bel).get0 encH_len rfl rfl ra (u := .int .u32 x.1) rfl (AsI.mk (hS.any fun W3 hS => (hr.bel hS.bel).getN encH_len rfl rfl ra (cs := encT x.2) rfl rfl ?_)))
    refine hS.cset (p := mkP x.1 x.2.1.1 hd hid) (t := x.2) hG (RdL.bel hwt.1 hS.bel) rfl (fun hne b hb => hS.offOld (wf_old hwt.1 hne hb)) fun o' N' kv' W4 he hS => AsI.mk ?_
    rw [nsucc (by omega)]
    exact hk (j + 1, o', N', kv') W4 ⟨hlt', by dsimp only; omega, by dsimp only; rw [he]; exact eset_good hG hwt.2.1 rfl, hS⟩ (by dsimp only; omega)
  · rw [decide_eq_false h300]; exact fin)
theorem _root_.Go.Vc.Ow.cfill {W0 W : World} {rs : List Res} {kp : List PanicEntry → World → Prop} {k : Value → World → Prop} {l : List Hd} {a : Option Addr} {n c : Nat} (h : Ow NoS W0 W rs) (hr : RdL W 4 encH a l) (hn : n = l.length) (hw : ∀ h ∈ l, WfD W h)
    (hk : ∀ q o N kv W', GoodE (er kv) → Ow NoS W0 W' (caL q o N kv ++ rs) → k (pt q) W') : CallK Try.prog 21 #[.slice a n c] W kp k :=
  CallK.mk (fill_gives hr hn hw) fun v W' hv => by
    obtain ⟨q, o, N, kv, rfl, hG, ho⟩ := hv
    refine hk q o N kv W' hG (Ow.frame (us := []) h ⟨ho.fr.mono fun b _ h => h.elim, ho.ok, fun i r b hi hb => ⟨(ho.lt i r b hi hb).1, .inr ((ho.lt i r b hi hb).2.resolve_left fun h => h)⟩, ho.dis⟩)
theorem WfD.bel {W W' : World} {h : Hd} (w : WfD W h) (hb : Below W.heap.size W W') : WfD W' h := ⟨w.1.bel hb, w.2⟩

/-! ### What was set is found -/
theorem kget_set_same {e : Ek} {p : Pl} {t : Tp} (hn : (e.map (·.1)).Nodup) : kget (kset e p t) p = some t := by
  refine kget_mem (kset_keys hn) ?_
  unfold kset
  split
  · rename_i hs
    cases hg : kget e p with
    | none => rw [hg] at hs; cases hs
    | some v => exact List.mem_map.2 ⟨(p, v), kget_some hg, by simp⟩
  · exact List.mem_append_right _ (List.mem_singleton.2 rfl)
theorem kget_set_other {e : Ek} {p r : Pl} {t : Tp} (hn : (e.map (·.1)).Nodup) (h : r ≠ p) : kget (kset e p t) r = kget e r := by
  cases hg : kget e r with
  | some v =>
    refine kget_mem (kset_keys hn) ?_
    have hm := kget_some hg
    unfold kset
    split
    · exact List.mem_map.2 ⟨(r, v), hm, by simp [h]⟩
    · exact List.mem_append_left _ hm
  | none =>
    refine kget_none fun x hx he => ?_
    rcases kset_mem hx with rfl | hx
    · exact h he.symm
    · obtain ⟨a, b⟩ := x
      dsimp only at he
      subst he
      rw [kget_mem hn hx] at hg; cases hg
theorem kget_del_same {e : Ek} {p : Pl} : kget (kdel e p) p = none := kget_none fun x hx => by
  unfold kdel at hx
  have := (List.mem_filter.1 hx).2
  simpa using this
theorem kget_del_other {e : Ek} {p r : Pl} (hn : (e.map (·.1)).Nodup) (h : r ≠ p) : kget (kdel e p) r = kget e r := by
  cases hg : kget e r with
  | some v => exact kget_mem (kdel_keys hn) (List.mem_filter.2 ⟨kget_some hg, by simpa using h⟩)
  | none =>
    refine kget_none fun x hx he => ?_
    obtain ⟨a, b⟩ := x
    dsimp only at he
    subst he
    rw [kget_mem hn (List.mem_filter.1 hx).1] at hg; cases hg
theorem eset_other {e : Ek} {p r : Pl} {t : Tp} (hn : (e.map (·.1)).Nodup) (h : r ≠ p) : kget (eset e p t).1 r = kget e r := by
  unfold eset
  split
  · split
    · exact kget_set_other hn h
    · rfl
  · rfl
theorem edrop_other {e : Ek} {p r : Pl} (hn : (e.map (·.1)).Nodup) (h : r ≠ p) : kget (edrop e p).1 r = kget e r := by
  unfold edrop
  split
  · exact kget_del_other hn h
  · rfl
theorem eset_err {e : Ek} {p : Pl} {t : Tp} (h : (eset e p t).2 ≠ 0) : (eset e p t).1 = e ∧ (((eset e p t).2 == 3) != rightT t) = true := by
  unfold eset at *
  split at h
  · rename_i hR
    split at h
    · exact absurd rfl h
    · rename_i hF
      rw [if_pos hR, if_neg hF, hR]; exact ⟨rfl, rfl⟩
  · rename_i hR
    have : rightT t = false := by cases hc : rightT t with | false => rfl | true => exact absurd hc hR
    rw [if_neg hR, this]; exact ⟨rfl, rfl⟩
theorem eset_ok {e : Ek} {p : Pl} {t : Tp} (h : (eset e p t).2 = 0) : (eset e p t).1 = kset e p t ∧ rightT t = true := by
  unfold eset at *
  split at h
  · rename_i hR
    split at h
    · rename_i hF
      rw [if_pos hR, if_pos hF]; exact ⟨rfl, hR⟩
    · cases h
  · cases h
theorem lst_len {e : Ek} {l : List Hd} (hG : GoodE e) (h : IsList e (l.map pl)) : l.length = e.length := (h.isL hG).len hG
theorem keeps_law {W : World} {l : List Hd} {x y : Hd} {a : Option Addr} {n c : Nat} (hr : RdL W 4 encH a l) (hn : n = l.length) (hw : ∀ h ∈ l, WfD W h) (wx : WfD W x) (wy : WfD W y) :
    Gives Try.prog 4 #[.slice a n c, .agg (encH x).toArray, .agg (encH y).toArray] W fun v W' => v = .bool true ∧ Below W.heap.size W W' := F4_fn (by
  unfold F4
  have hS := Ow.start NoS W
  obtain ⟨⟨rx, tx, lx⟩, dx, ix⟩ := wx
  obtain ⟨⟨ry, ty, ly⟩, dy, iy⟩ := wy
  let p : Pl := mkP x.1 x.2.1.1 dx ix
  let r : Pl := mkP y.1 y.2.1.1 dy iy
  refine hS.new fun q4 W1 hS => hS.new fun q5 W2 hS => hS.cfill (hr.bel hS.bel) hn (fun h hh => (hw h hh).bel hS.bel) fun q o N kv W3 hG hS => AsP.mk (nil_ptr_eql t23 (AsB.mk (If.neg rfl ?_)))
  refine hS.clist hG fun a23 c23 l1 N1 W4 hl1 hS => AsL.mk rfl ?_
  have hn1 := lst_len hG hl1
  have hS := hS.pick (rs' := caL q o N kv ++ [.cl q5 (encH y) 49, .cl q4 (encH x) 49]) [2, 3, 4, 5, 6] (by decide) rfl
  refine hS.ld 4 rfl rfl (AsI.mk (hS.ldA 4 rfl rfl (AsI.mk ?_)))
  refine hS.cfind p hG fun u W5 hu hS => AsT2.mk (AsB.mk (hS.new fun q9 W6 hS => hS.stw 0 rfl (cs := encT u) rfl rfl rfl fun W7 hS => ?_))
  have hS := hS.pick (rs' := caL q o N kv ++ [.cl q5 (encH y) 49, .cl q4 (encH x) 49]) [2, 3, 4, 5, 6] (by decide) rfl
  refine hS.ld 4 rfl rfl (AsI.mk (hS.ldp 4 rfl (cs := encT x.2) rfl rfl ?_))
  refine hS.cset (p := p) (t := x.2) hG (RdL.bel rx hS.bel) rfl (fun hne b hb => hS.offOld (wf_old rx hne hb)) fun o2 N2 kv2 W8 he hS => AsI.mk ?_
  have hG2 : GoodE (er kv2) := by rw [he]; exact eset_good hG tx rfl
  refine If.bne (fun hne => ?_) fun h0 => ?_
  · obtain ⟨e1, e2⟩ := eset_err hne
    rw [e1] at he
    refine hS.ld 4 rfl rfl (AsI.mk (hS.ldA 4 rfl rfl (AsI.mk ?_)))
    refine hS.cfind p hG2 fun u' W9 hu' hS => AsT2.mk (AsB.mk (hS.new fun q12 W10 hS => hS.stw 0 rfl (cs := encT u') rfl rfl rfl fun W11 hS => ?_))
    refine hS.callv (alive_gives W11) fun W12 hS => AsB.mk (Join.use fun J hJ => If.pos rfl ?_)
    have hS := hS.pick (rs' := caL q o2 N2 kv2 ++ [.cl q5 (encH y) 49, .cl q4 (encH x) 49]) [2, 3, 4, 5, 6] (by decide) rfl
    refine hS.clist hG2 fun a56 c56 l2 N3 W13 hl2 hS => AsL.mk rfl ?_
    have hn2 := lst_len hG2 hl2
    have e3 : (((l2.length : Int) : Int) == (l1.length : Int)) = true := by rw [beq_iff_eq, hn2, hn1, he]
    rw [e3, hJ]; dsimp only
    refine Join.use fun J1 hJ1 => If.pos rfl (bool_eql t4 (AsB.mk ?_))
    rw [he, beq_self_eq_true, hJ1]; dsimp only
    refine Join.use fun J2 hJ2 => If.pos rfl (hS.ldp 6 rfl (cs := encT x.2) rfl rfl (hS.callv (right_gives (RdL.bel rx hS.bel)) fun W14 hS => AsB.mk (bool_neq t4 (AsB.mk ?_))))
    rw [hJ2]
    have e4 : (!((eset (er kv) p x.2.1).2 == 3) == rightT x.2.1) = true → True := fun _ => trivial
    refine ⟨?_, hS.bel⟩
    congr 1
  · obtain ⟨e1, hR⟩ := eset_ok h0
    rw [e1] at he
    have hp : kget (er kv2) p = some x.2.1 := by rw [he]; exact kget_set_same hG.1
    refine hS.ld 3 rfl rfl (AsI.mk (hS.ld 4 rfl rfl (AsI.mk (Join.use fun J3 hJ3 => ?_))))
    have j3 : ∀ b, (b = true → r ≠ p) → J3 b W8 := fun b hb => by
      rw [hJ3]; dsimp only
      refine Join.use fun J4 hJ4 => ?_
      have j4 : ∀ o3 N3 kv3 W9, GoodE (er kv3) → kget (er kv3) p = some x.2.1 → Ow NoS W W9 (caL q o3 N3 kv3 ++ [.cl q5 (encH y) 49, .cl q4 (encH x) 49]) → J4 W9 := fun o3 N3 kv3 W9 hG3 hp3 hS => by
        rw [hJ4]; dsimp only
        refine hS.ld 4 rfl rfl (AsI.mk (hS.ldA 4 rfl rfl (AsI.mk ?_)))
        refine hS.cfind p hG3 fun v W10 hv hS => AsT2.mk (AsB.mk (hS.new fun q14 W11 hS => hS.stw 0 rfl (cs := encT v) rfl rfl rfl fun W12 hS => Join.use fun J5 hJ5 => ?_))
        rw [hp3] at hv ⊢
        have hv : v.1 = x.2.1 := hv
        refine If.neg rfl (hS.ldw 0 rfl rfl (hS.ldp 6 rfl (cs := encT x.2) rfl rfl ?_))
        refine hS.callv (same_gives (t := v) (u := x.2) (hS.rd 1 rfl) (RdL.bel rx hS.bel) (by rw [hv]; exact tx) tx (by rw [hv]; exact lx)) fun W13 hS => AsB.mk ?_
        rw [decide_eq_true hv, hJ5]; dsimp only
        refine Join.use fun J6 hJ6 => If.neg rfl (hS.ld 6 rfl rfl (AsI.mk (hS.ldA 6 rfl rfl (AsI.mk ?_))))
        have hS := hS.pick (rs' := caL q o3 N3 kv3 ++ [.cl q5 (encH y) 49, .cl q4 (encH x) 49]) [2, 3, 4, 5, 6] (by decide) rfl
        refine hS.cdrop p fun o4 N4 kv4 W14 he4 hS => AsI.mk ?_
        have ed : edrop (er kv3) p = (kdel (er kv3) p, 0) := by unfold edrop; rw [hp3]; rfl
        have hG4 : GoodE (er kv4) := by rw [he4]; exact edrop_good hG3
        rw [ed] at he4 ⊢
        have hn4 : kget (er kv4) p = none := by rw [he4]; exact kget_del_same
        rw [hJ6]; dsimp only
        refine If.neg rfl (hS.ld 4 rfl rfl (AsI.mk (hS.ldA 4 rfl rfl (AsI.mk ?_))))
        refine hS.cfind p hG4 fun z W15 hz hS => AsT2.mk (AsB.mk (hS.new fun q16 W16 hS => hS.stw 0 rfl (cs := encT z) rfl rfl rfl fun W17 hS => ?_))
        refine hS.callv (alive_gives W17) fun W18 hS => AsB.mk (Join.use fun J7 hJ7 => If.pos rfl ?_)
        rw [hn4, hJ7]; dsimp only
        refine Join.use fun J8 hJ8 => If.pos rfl (hS.ld 6 rfl rfl (AsI.mk (hS.ldA 6 rfl rfl (AsI.mk ?_))))
        have hS := hS.pick (rs' := caL q o4 N4 kv4 ++ []) [2, 3, 4] (by decide) rfl
        refine hS.cdrop p fun o5 N5 kv5 W19 he5 hS => AsI.mk ?_
        have ed5 : edrop (er kv4) p = (er kv4, 4) := by unfold edrop; rw [hn4]; rfl
        rw [ed5, hJ8]
        exact ⟨rfl, hS.bel⟩
      refine If.split (fun hb1 => ?_) fun _ => j4 o2 N2 kv2 W8 hG2 hp hS
      have hrp := hb hb1
      refine hS.ld 3 rfl rfl (AsI.mk (hS.ldp 3 rfl (cs := encT y.2) rfl rfl ?_))
      refine hS.cset (p := r) (t := y.2) hG2 (RdL.bel ry hS.bel) rfl (fun hne b hb => hS.offOld (wf_old ry hne hb)) fun o3 N3 kv3 W9 he3 hS => AsI.mk ?_
      have hG3 : GoodE (er kv3) := by rw [he3]; exact eset_good hG2 ty rfl
      refine hS.ld 3 rfl rfl (AsI.mk (hS.ldA 3 rfl rfl (AsI.mk ?_)))
      refine hS.cdrop r fun o4 N4 kv4 W10 he4 hS => AsI.mk (j4 o4 N4 kv4 W10 ?_ ?_ hS)
      · rw [he4]; exact edrop_good hG3
      · rw [he4, edrop_other hG3.1 (Ne.symm hrp), he3, eset_other hG2.1 (Ne.symm hrp)]; exact hp
    refine If.bne (fun h => j3 _ fun _ e => h (congrArg (fun z : Pl => z.1.1) e)) fun h => hS.ldA 3 rfl rfl (AsI.mk (hS.ldA 4 rfl rfl (AsI.mk (j3 _ fun hb e => ?_))))
    have h2 : y.2.1.1 = x.2.1.1 := congrArg (fun z : Pl => z.1.2) e
    rw [h2, bne_self_eq_false] at hb; cases hb)
/-- What the cache has does not hang on its order. -/
theorem IsL.congr {e e' : Ek} {l : List Hd} (h : IsL e l) (he : ∀ x, x ∈ e ↔ x ∈ e') : IsL e' l :=
  ⟨h.srt, fun g hg => by obtain ⟨p, hp, e1⟩ := h.to g hg; exact ⟨p, (he _).1 hp, e1⟩, fun p t hm => h.of p t ((he _).2 hm)⟩
theorem prs_mem {e : Ek} (hG : GoodE e) {ks : List Pl} (hk : ∀ p, p ∈ ks ↔ p ∈ e.map (·.1)) (x : Pl × Tp) : x ∈ prs e ks ↔ x ∈ e := by
  obtain ⟨p, t⟩ := x
  constructor
  · intro h
    obtain ⟨r, hr, e1⟩ := List.mem_map.1 h
    obtain ⟨u, hu⟩ := kget_key ((hk r).1 hr)
    rw [hu] at e1
    cases e1
    exact kget_some hu
  · intro h
    refine List.mem_map.2 ⟨p, (hk p).2 (List.mem_map.2 ⟨_, h, rfl⟩), ?_⟩
    rw [hG.get h]; rfl
theorem order_law {W : World} {l0 : List Hd} {a : Option Addr} {n c : Nat} (hr : RdL W 4 encH a l0) (hn : n = l0.length) (hw : ∀ h ∈ l0, WfD W h) :
    Gives Try.prog 6 #[.slice a n c] W fun v W' => v = .bool true ∧ Below W.heap.size W W' := F6_fn (by
  unfold F6
  refine (Ow.start NoS W).cfill hr hn hw fun q o N kv W1 hG hS => AsP.mk (nil_ptr_eql t23 (AsB.mk (If.neg rfl ?_)))
  refine hS.clist hG fun a12 c12 l N1 W2 hl hS => AsL.mk rfl ?_
  have hI := hl.isL hG
  have hll := hI.len hG
  have h64 := hG.2.1
  obtain ⟨ks, hp, hpw, hlk⟩ := hl
  have hkn : ks.Nodup := hp.nodup_iff.2 hG.1
  have hkl : ks.length = l.length := by
    have := hp.length_eq
    rw [List.length_map] at this
    omega
  refine hS.cnew fun q' W3 hS => AsP.mk (nil_ptr_eql t23 (AsB.mk (Join.use fun J hJ => If.neg rfl ?_)))
  rw [decide_eq_false (by omega), hJ]; dsimp only
  have hS := hS.pick (rs' := caL q' none (fun _ => False) [] ++ [.sl 49 4 encH (.slice a12 l.length c12) l, .ne N1 (l.map (·.2))]) [0, 1, 2, 3, 4] (by decide) rfl
  refine If.neg rfl ?_
  rw [wrap_i64 (by omega) (by omega)]
  refine Lp.of (fun s : Nat × Option Nat × (Nat → Prop) × List (Pl × Tm) => [.bool false, .int .i64 ((s.1 : Int) - 1)]) (fun s W' => s.1 ≤ l.length ∧ er s.2.2.2 = prs (er kv) (ks.drop s.1).reverse ∧ Ow NoS W W' (caL q' s.2.1 s.2.2.1 s.2.2.2 ++ [.sl 49 4 encH (.slice a12 l.length c12) l, .ne N1 (l.map (·.2))])) (fun s => s.1)
    (l.length, none, fun _ => False, []) rfl ⟨Nat.le_refl _, by dsimp only; rw [← hkl, List.drop_length]; rfl, hS⟩ ?_
  rintro ⟨j, o', N', kv'⟩ W4 k ⟨hj, he, hS⟩ hk
  dsimp only at hj he hS hk ⊢
  have keysD : ∀ i, ((ks.drop i).reverse).Nodup := fun i => (List.reverse_perm _).nodup_iff.2 (hkn.sublist (List.drop_sublist _ _))
  have goodD : ∀ i, GoodE (prs (er kv) (ks.drop i).reverse) := fun i => by
    refine ⟨by rw [prs_keys]; exact keysD i, by unfold prs; simp; omega, fun x hx => ?_⟩
    obtain ⟨p, hp', rfl⟩ := List.mem_map.1 hx
    obtain ⟨t, ht⟩ := kget_key (hp.mem_iff.1 (List.mem_of_mem_drop (List.mem_reverse.1 hp')))
    have := hG.2.2 _ (kget_some ht)
    dsimp only
    rw [ht]; exact this
  have hG' : GoodE (er kv') := by rw [he]; exact goodD j
  refine AsB.mk (AsI.mk (If.dec (fun hge => ?_) fun hlt => ?_))
  · have hj1 : 1 ≤ j := by have : (j : Int) - 1 ≥ 0 := hge; omega
    obtain ⟨i, rfl⟩ : ∃ i, j = i + 1 := ⟨j - 1, by omega⟩
    have ei : (((i + 1 : Nat) : Int) - 1) = (i : Int) := by omega
    rw [ei]
    have hil : i < l.length := hj
    have ra := List.getElem?_eq_getElem hil
    generalize hxe : l[i] = x at ra
    obtain ⟨p, hpi, hpg, e1, e2⟩ := lst_at hp hG hlk ra
    have hR : rightT x.2.1 = true := (hG.2.2 _ (kget_some hpg)).1
    have hdrop : (ks.drop i).reverse = (ks.drop (i + 1)).reverse ++ [p] := by
      obtain ⟨h1, h2⟩ := List.getElem?_eq_some_iff.1 hpi
      rw [List.drop_eq_getElem_cons h1, List.reverse_cons, h2]
    have hnot : p ∉ (ks.drop (i + 1)).reverse := fun h => by
      have := keysD i
      rw [hdrop] at this
      exact (List.nodup_append.1 this).2.2 p h p (List.mem_singleton.2 rfl) rfl
    have hlen : (er kv').length < 64 := by rw [he]; unfold prs; simp; omega
    have hset : eset (er kv') p x.2.1 = (prs (er kv) (ks.drop i).reverse, 0) := by
      rw [eset_new hR hlen (by rw [he]; exact prs_not hnot), hdrop, he]
      unfold prs
      rw [List.map_append, List.map_cons, List.map_nil, hpg]; rfl
    refine hS.any fun W5 hS => (hS.rd 3 rfl).get0 encH_len rfl rfl ra (u := .int .u32 x.1) rfl (AsI.mk ((hS.rd 3 rfl).getN encH_len rfl rfl ra (cs := encT x.2) rfl rfl ?_))
    have hn := hS.get 4 rfl x.2 (List.mem_map.2 ⟨x, List.mem_of_getElem? ra, rfl⟩)
    rw [e1]
    refine hS.cset (p := p) (t := x.2) hG' hn.1 e2 (fun _ b hb => hS.off (i := 1) rfl (hn.2 b hb)) fun o2 N2 kv2 W6 he2 hS => AsI.mk (Join.use fun J1 hJ1 => ?_)
    rw [hset] at he2 ⊢
    have j1 : ∀ W7, Ow NoS W W7 (caL q' o2 N2 kv2 ++ [.sl 49 4 encH (.slice a12 l.length c12) l, .ne N1 (l.map (·.2))]) → J1 false W7 := fun W7 hS => by
      rw [hJ1]; dsimp only
      refine If.neg rfl ?_
      rw [wrap_i64 (by omega) (by omega)]
      exact hk (i, o2, N2, kv2) W7 ⟨by dsimp only; omega, he2, hS⟩ (by dsimp only; omega)
    refine If.bne (fun h => absurd rfl h) fun _ => Join.use fun J2 hJ2 => ?_
    refine If.dec (fun hpos => ?_) fun _ => by rw [hJ2]; exact j1 W6 hS
    obtain ⟨m, rfl⟩ : ∃ m, i = m + 1 := ⟨i - 1, by have : (i : Int) > 0 := hpos; omega⟩
    have rm := List.getElem?_eq_getElem (show m < l.length by omega)
    have hlt : ltD l[m] l[m + 1] := List.pairwise_iff_getElem.1 hI.srt m (m + 1) (by omega) hil (by omega)
    rw [hxe] at hlt
    generalize l[m] = y at rm hlt
    have em : IntKind.i64.wrap (((m + 1 : Nat) : Int) - 1) = (m : Int) := by rw [wrap_i64 (by omega) (by omega)]; omega
    rw [em]
    have hla := hS.rd 3 rfl
    refine hla.get encH_len rfl rfl rm (hla.get0 encH_len rfl rfl ra (u := .int .u32 x.1) rfl (AsI.mk (hla.get1 encH_len rfl rfl ra (c := 1) (u := .int .i64 x.2.1.1) rfl (AsI.mk ?_))))
    refine hS.callv (ahead_gives y (x.1, x.2.1.1) W6) fun W7 hS => AsB.mk ?_
    have hah : ahd (x.1, x.2.1.1) y = true := by
      unfold ahd; unfold ltD at hlt
      rw [Bool.or_eq_true, Bool.and_eq_true, decide_eq_true_eq, decide_eq_true_eq, beq_iff_eq]
      exact hlt
    rw [hah, hJ2]
    exact j1 W7 hS
  · have hj0 : j = 0 := by have : ¬ (j : Int) - 1 ≥ 0 := hlt; omega
    subst hj0
    rw [List.drop_zero] at he
    refine hS.callv (alive_gives W4) fun W5 hS => AsB.mk (Join.use fun J3 hJ3 => If.pos rfl ?_)
    refine hS.clist hG' fun a68 c68 l2 N2 W6 hl2 hS => AsL.mk rfl ?_
    have hI2 := hl2.isL hG'
    have hI2' : IsL (er kv) l2 := hI2.congr fun z => by
      rw [he]
      exact prs_mem hG (fun p => by rw [List.mem_reverse]; exact hp.mem_iff) z
    refine hS.callv (sameAll_gives (hS.rd 0 rfl) rfl (hS.rd 5 rfl) rfl (ne_wf hG' hI2 (hS.get 1 rfl)) (ne_wf hG hI (hS.get 6 rfl)) (by have := hI2'.len hG; omega)) fun W7 hS => AsB.mk ?_
    rw [decide_eq_true (hI2'.eq hI), hJ3]
    exact ⟨rfl, hS.bel⟩)
end Go.Proofs.Ytdfaocbpghjboaa.Ch
