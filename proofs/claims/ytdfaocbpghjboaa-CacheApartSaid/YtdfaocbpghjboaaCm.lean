/- The cache: its calls beside whatever else is owned; Clone; calls of no cache. -/
import Derived.Test.YtdfaocbpghjboaaCl
namespace Go.Proofs.Ytdfaocbpghjboaa.Ch
open Go Go.RowKit Go.Vc Go.Proofs.Ytdfaocbpghjboaa.Fs

section
variable {S : Nat → Prop} {W0 W : World} {rs : List Res} {kp : List PanicEntry → World → Prop} {k : Value → World → Prop} {q : Nat} {o : Option Nat} {N : Nat → Prop} {kv : List (Pl × Tm)} {p : Pl} {t : Tm}
abbrev pt (q : Nat) : Value := .pointer (some ⟨q, 0, none⟩)
theorem _root_.Go.Vc.Ow.cnew (h : Ow S W0 W rs) (hk : ∀ q W', Ow S W0 W' (caL q none (fun _ => False) [] ++ rs) → k (pt q) W') : CallK Try.prog 7 #[] W kp k :=
  Ow.callF (us := []) h (fun h => new_gives h) fun v as' W' hq ho => by
    obtain ⟨q, rfl, rfl⟩ := hq; exact hk q W' ho
theorem _root_.Go.Vc.Ow.cset (h : Ow S W0 W (caL q o N kv ++ rs)) (hG : GoodE (er kv)) (ht : RdT W t) (hp : p.1.2 = t.1.1) (hd : t.1.2.2 ≠ [] → ∀ a, t.2.1 = some a → ¬ foot (caL q o N kv) a.block)
    (hk : ∀ o' N' kv' W', er kv' = (eset (er kv) p t.1).1 → Ow S W0 W' (caL q o' N' kv' ++ rs) → k (.int .i64 (eset (er kv) p t.1).2) W') :
    CallK Try.prog 10 #[pt q, .int .u32 p.1.1, .agg (encT t).toArray] W kp k :=
  h.callF (fun h => set_gives h hG ht hp hd) fun v as' W' hq ho => by
    obtain ⟨rfl, o', N', kv', rfl, he⟩ := hq; exact hk o' N' kv' W' he ho
theorem _root_.Go.Vc.Ow.cdrop (p : Pl) (h : Ow S W0 W (caL q o N kv ++ rs)) (hk : ∀ o' N' kv' W', er kv' = (edrop (er kv) p).1 → Ow S W0 W' (caL q o' N' kv' ++ rs) → k (.int .i64 (edrop (er kv) p).2) W') :
    CallK Try.prog 12 #[pt q, .int .u32 p.1.1, .int .i64 p.1.2] W kp k :=
  h.callF (fun h => drop_gives p h) fun v as' W' hq ho => by
    obtain ⟨rfl, o', N', kv', rfl, he⟩ := hq; exact hk o' N' kv' W' he ho
theorem _root_.Go.Vc.Ow.cdall (d : Int) (b : Bool) (h : Ow S W0 W (caL q o N kv ++ rs)) (hG : GoodE (er kv)) (hk : ∀ o' N' kv' W', er kv' = edall (er kv) d b → Ow S W0 W' (caL q o' N' kv' ++ rs) → k (.int .i64 (((er kv).length : Int) - ((edall (er kv) d b).length : Int))) W') :
    CallK Try.prog 15 #[pt q, .int .u32 d, .bool b] W kp k :=
  h.callF (fun h => dropAll_gives d b h (by rw [← er_keys]; exact hG.1) (by have := hG.2.1; rw [er_len] at this; omega)) fun v as' W' hq ho => by
    obtain ⟨rfl, o', N', kv', rfl, he⟩ := hq
    have := hk o' N' kv' W' he ho
    rwa [er_len] at this
theorem _root_.Go.Vc.Ow.cfind (p : Pl) (h : Ow S W0 W (caL q o N kv ++ rs)) (hG : GoodE (er kv)) (hk : ∀ (u : Tm) W', u.1 = (kget (er kv) p).getD zTm.1 → Ow S W0 W' (.sl 54 3 encS (.slice u.2.1 u.1.2.2.length u.2.2) u.1.2.2 :: (caL q o N kv ++ rs)) → k (.tuple #[.agg (encT u).toArray, .bool (kget (er kv) p).isSome]) W') :
    CallK Try.prog 16 #[pt q, .int .u32 p.1.1, .int .i64 p.1.2] W kp k :=
  h.callF (fun h => cfind_gives p h hG) fun v as' W' hq ho => by
    obtain ⟨u, rfl, hu, rfl⟩ := hq; exact hk u W' hu ho
theorem _root_.Go.Vc.Ow.clist (h : Ow S W0 W (caL q o N kv ++ rs)) (hG : GoodE (er kv)) (hk : ∀ a c l N' W', IsList (er kv) (l.map pl) → Ow S W0 W' (.sl 49 4 encH (.slice a l.length c) l :: .ne N' (l.map (·.2)) :: (caL q o N kv ++ rs)) → k (.slice a l.length c) W') :
    CallK Try.prog 22 #[pt q] W kp k :=
  h.callF (fun h => list_gives h hG) fun v as' W' hq ho => by
    obtain ⟨a, c, l, N', rfl, hl, rfl⟩ := hq; exact hk a c l N' W' hl ho
end

/-! ### Clone -/
theorem lst_at {e : Ek} {ks : List Pl} (hk : ks.Perm (e.map (·.1))) (hG : GoodE e) {l : List Hd} (hl : l.map pl = lst e ks) {j : Nat} {x : Hd} (hx : l[j]? = some x) : ∃ p, ks[j]? = some p ∧ kget e p = some x.2.1 ∧ x.1 = p.1.1 ∧ p.1.2 = x.2.1.1 := by
  have h1 := congrArg (fun m => m[j]?) hl
  unfold lst at h1
  simp only [List.getElem?_map, hx, Option.map_some] at h1
  obtain ⟨p, hp, h2⟩ := Option.map_eq_some_iff.1 h1.symm
  obtain ⟨t, ht⟩ := kget_key (hk.mem_iff.1 (List.mem_of_getElem? hp))
  rw [ht] at h2
  have e1 : p.1.1 = x.1 := congrArg Prod.fst h2
  have e2 : t = x.2.1 := congrArg Prod.snd h2
  subst e2
  exact ⟨p, hp, ht, e1.symm, (hG.2.2 _ (kget_some ht)).2.2⟩
/-- The pairs of these places. -/
def prs (e : Ek) (ks : List Pl) : Ek := ks.map fun p => (p, (kget e p).getD zTm.1)
theorem prs_keys (e : Ek) (ks : List Pl) : (prs e ks).map (·.1) = ks := by
  unfold prs; rw [List.map_map]
  exact List.map_id'' (fun _ => rfl) ks
theorem prs_get {e : Ek} {ks : List Pl} (hn : ks.Nodup) {p : Pl} (h : p ∈ ks) : kget (prs e ks) p = some ((kget e p).getD zTm.1) :=
  kget_mem (by rw [prs_keys]; exact hn) (List.mem_map.2 ⟨p, h, rfl⟩)
theorem prs_not {e : Ek} {ks : List Pl} {p : Pl} (h : p ∉ ks) : kget (prs e ks) p = none :=
  kget_none fun x hx he => by
    obtain ⟨y, hy, rfl⟩ := List.mem_map.1 hx
    exact h (he ▸ hy)
/-- One more place is set. -/
theorem eset_new {e : Ek} {p : Pl} {t : Tp} (hR : rightT t = true) (hl : e.length < 64) (hn : kget e p = none) : eset e p t = (e ++ [(p, t)], 0) := by
  unfold eset
  rw [if_pos hR, if_pos (.inr hl)]
  unfold kset
  rw [hn]; rfl
theorem clone_gives {q : Nat} {o : Option Nat} {N : Nat → Prop} {kv : List (Pl × Tm)} {F : Nat → Prop} {W : World} (hS : Ow F W W (caL q o N kv)) (hG : GoodE (er kv)) :
    Gives Try.prog 23 #[pt q] W fun v W' => ∃ as', (∃ q' o' N' kv', v = pt q' ∧ (∃ ks : List Pl, ks.Perm ((er kv).map (·.1)) ∧ ks.Pairwise ltP ∧ er kv' = prs (er kv) ks) ∧ as' = caL q' o' N' kv' ++ caL q o N kv) ∧ Ow F W W' as' := F23_fn (by
  unfold F23
  refine hS.cnew fun q' W1 hS => AsP.mk ?_
  have hS : Ow F W W1 (caL q o N kv ++ caL q' none (fun _ => False) []) := Ow.swap (us := caL q' none (fun _ => False) []) hS
  refine hS.clist hG fun a8 c8 l N1 W2 hl hS => AsL.mk rfl ?_
  obtain ⟨ks, hp, hpw, hl⟩ := hl
  have hkn : ks.Nodup := hp.nodup_iff.2 hG.1
  have hkl := hp.length_eq
  rw [List.length_map] at hkl
  have h64 := hG.2.1
  have hll : l.length = ks.length := by
    have := congrArg List.length hl
    unfold lst at this
    simpa using this
  have hS : Ow F W W2 (caL q' none (fun _ => False) [] ++ (.sl 49 4 encH (.slice a8 l.length c8) l :: .ne N1 (l.map (·.2)) :: caL q o N kv)) := hS.pick [5, 6, 7, 0, 1, 2, 3, 4] (by decide) rfl
  refine Lp.of (fun s : Nat × Option Nat × (Nat → Prop) × List (Pl × Tm) => [.int .i64 (s.1 : Int)]) (fun s W' => s.1 ≤ l.length ∧ er s.2.2.2 = prs (er kv) (ks.take s.1) ∧
    Ow F W W' (caL q' s.2.1 s.2.2.1 s.2.2.2 ++ (.sl 49 4 encH (.slice a8 l.length c8) l :: .ne N1 (l.map (·.2)) :: caL q o N kv))) (fun s => l.length - s.1) (0, none, fun _ => False, []) rfl ⟨Nat.zero_le _, rfl, hS⟩ ?_
  rintro ⟨j, o', N', kv'⟩ W3 k ⟨hj, he, hS⟩ hk2
  dsimp only at hj he hS hk2 ⊢
  refine AsI.mk (If.dec (fun hlt => ?_) fun hge => ?_)
  · have hlt' : j < l.length := by have : (j : Int) < (l.length : Int) := hlt; omega
    have ra := List.getElem?_eq_getElem hlt'
    generalize l[j] = x at ra
    obtain ⟨p, hpj, hpg, e1, e2⟩ := lst_at hp hG hl ra
    have hmem := kget_some hpg
    have hR : rightT x.2.1 = true := (hG.2.2 _ hmem).1
    have htk : ks.take (j + 1) = ks.take j ++ [p] := by
      obtain ⟨h1, h2⟩ := List.getElem?_eq_some_iff.1 hpj
      rw [← h2]; exact List.take_succ_eq_append_getElem h1
    have hnot : p ∉ ks.take j := fun h => by
      have : (ks.take j ++ [p]).Nodup := by rw [← htk]; exact hkn.sublist (List.take_sublist _ _)
      exact (List.nodup_append.1 this).2.2 p h p (List.mem_singleton.2 rfl) rfl
    have hlen : (er kv').length = j := by rw [he]; unfold prs; simp; omega
    have hset : eset (er kv') p x.2.1 = (prs (er kv) (ks.take (j + 1)), 0) := by
      rw [eset_new hR (by omega) (by rw [he]; exact prs_not hnot), htk, he]
      unfold prs
      rw [List.map_append, List.map_cons, List.map_nil, hpg]; rfl
    have hGe : GoodE (er kv') := by
      rw [he]
      refine ⟨by rw [prs_keys]; exact hkn.sublist (List.take_sublist _ _), by rw [← he]; omega, fun y hy => ?_⟩
      obtain ⟨p', hp', rfl⟩ := List.mem_map.1 hy
      obtain ⟨t', ht'⟩ := kget_key (hp.mem_iff.1 (List.mem_of_mem_take hp'))
      have := hG.2.2 _ (kget_some ht')
      dsimp only
      rw [ht']; exact this
    refine (hS.rd 3 rfl).get encH_len rfl rfl ra ?_
    refine hS.new fun q5 W4 hS => hS.stw 0 rfl (cs := encH x) rfl rfl rfl fun W5 hS => hS.ld 0 rfl rfl (AsI.mk (hS.ldp 0 rfl (cs := encT x.2) rfl rfl ?_))
    have hS := hS.tail
    have hn := hS.get 4 rfl x.2 (List.mem_map.2 ⟨x, List.mem_of_getElem? ra, rfl⟩)
    have hS' : Ow F W W5 (caL q' o' N' kv' ++ (.sl 49 4 encH (.slice a8 l.length c8) l :: .ne N1 (l.map (·.2)) :: caL q o N kv)) := hS
    rw [e1]
    refine hS'.cset (p := p) hGe hn.1 e2 (fun _ a ha => hS'.off (i := 1) rfl (hn.2 a ha)) fun o2 N2 kv2 W6 he2 hS => AsI.mk ?_
    rw [nsucc (by omega)]
    exact hk2 (j + 1, o2, N2, kv2) W6 ⟨hlt', by rw [he2, hset], hS⟩ (by dsimp only; omega)
  · have hge' : ¬ (j : Int) < (l.length : Int) := hge
    have : ks.take j = ks := List.take_of_length_le (by omega)
    rw [this] at he
    exact ⟨_, ⟨q', o', N', kv', rfl, ⟨ks, hp, hpw, he⟩, rfl⟩, hS.pick [0, 1, 2, 5, 6, 7] (by decide) rfl⟩)
/-! ### No cache -/
theorem set_nil {t : Tm} (d : Int) (W : World) : Gives Try.prog 10 #[.pointer none, .int .u32 d, .agg (encT t).toArray] W fun v W' => v = .int .i64 6 ∧ Below W.heap.size W W' := F10_fn (by
  unfold F10
  exact (Ow.start NoS W).new fun q5 W1 hS => nil_ptr_eql t23 (AsB.mk (If.pos rfl ⟨rfl, hS.bel⟩)))
theorem drop_nil (d id : Int) (W : World) : Gives Try.prog 12 #[.pointer none, .int .u32 d, .int .i64 id] W fun v W' => v = .int .i64 6 ∧ Below W.heap.size W W' := F12_fn (by
  unfold F12
  exact nil_ptr_eql t23 (AsB.mk (If.pos rfl ⟨rfl, Below.refl _ _⟩)))
theorem list_nil (W : World) : Gives Try.prog 22 #[.pointer none] W fun v W' => v = .slice none 0 0 ∧ Below W.heap.size W W' := F22_fn (by
  unfold F22
  exact nil_ptr_eql t23 (AsB.mk (If.pos rfl ⟨rfl, Below.refl _ _⟩)))
theorem clone_nil (W : World) : Gives Try.prog 23 #[.pointer none] W fun v W' => (∃ q, v = pt q) ∧ Below W.heap.size W W' := F23_fn (by
  unfold F23
  refine (Ow.start NoS W).cnew fun q' W1 hS => AsP.mk (hS.callv (list_nil W1) fun W2 hS => AsL.mk rfl ?_)
  refine Lp.of (fun _ : Unit => [.int .i64 0]) (fun _ W' => W' = W2) (fun _ => 0) () rfl rfl ?_
  rintro _ W3 k rfl _
  refine AsI.mk (If.dec (fun h => absurd h (by decide)) fun _ => ⟨⟨q', rfl⟩, hS.bel⟩))
end Go.Proofs.Ytdfaocbpghjboaa.Ch
