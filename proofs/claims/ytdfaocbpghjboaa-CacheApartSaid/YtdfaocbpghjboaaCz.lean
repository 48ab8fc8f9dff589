/- The law CacheApart: what is asked of its walk. -/
import Derived.Test.YtdfaocbpghjboaaCv
namespace Go.Vc
open Go Go.RowKit
section
variable {α : Type} {P : Program} {S : Nat → Prop} {W0 W : World} {rs : List Res}
theorem set_mid {β : Type} (l : List β) (p s o : Nat) (v : β) (ho : o < s) (hl : p + s ≤ l.length) : l.set (p + o) v = l.take p ++ ((l.drop p).take s).set o v ++ l.drop (p + s) := by
  have h1 : l = l.take p ++ ((l.drop p).take s ++ l.drop (p + s)) := by
    rw [← List.drop_drop, List.take_append_drop, List.take_append_drop]
  have hp : (l.take p).length = p := by rw [List.length_take]; omega
  have hs : ((l.drop p).take s).length = s := by rw [List.length_take, List.length_drop]; omega
  conv => lhs; rw [h1]
  rw [List.set_append_right _ _ (by rw [hp]; omega), hp, Nat.add_sub_cancel_left, List.set_append_left _ _ (by rw [hs]; exact ho), List.append_assoc]
/-- One field of an item. -/
theorem Ow.sfld {t el : TypeId} {size : Nat} {enc : α → List Value} {a : Option Addr} {n c : Nat} {l : List α} {x : Int} {j o : Nat} {y z : α} {v : Value} {K : World → Prop} (h : Ow S W0 W rs) (E : ElT P t el size enc) (i : Nat) (hi : rs[i]? = some (.sl el size enc (.slice a n c) l)) (hx : x = (j : Int)) (hz : l[j]? = some z) (ho : o < size) (hy : enc y = (enc z).set o v) (hv : v.cells = #[v]) (h1 : oneC v = true)
    (hk : ∀ W', Ow S W0 W' (rs.set i (.sl el size enc (.slice a n c) (l.set j y))) → K W') : IdxS a n x size fun q => StV 1 W (q.add o) v K := by
  have hj : j < l.length := (List.getElem?_eq_some_iff.1 hz).1
  have hs : SlR W el size enc (.slice a n c) l := h.get i hi
  have e := hs.len; subst e
  obtain ⟨g, cap, cur, hv', hg, h2, h3, h4, h5⟩ := hs.cells (by intro e; subst e; simp at hj)
  cases hv'
  have hle : j * size + size ≤ cur.size := by
    rw [h4]
    have : (j + 1) * size ≤ c * size := Nat.mul_le_mul_right _ (by omega)
    rwa [Nat.add_mul, Nat.one_mul] at this
  obtain ⟨hs1, hs2⟩ := row_set E.len y h2 h4 h5 hj
  refine IdxS.mk hx hj ?_
  rw [addr_add2]
  refine StV.ad1 hg hv (by omega) h1 fun W' hg' _ hf => ?_
  have hcur : (cur.setIfInBounds (0 + (j * size + o)) v) = (cur.toList.take (j * size) ++ enc y ++ cur.toList.drop (j * size + size)).toArray := by
    apply Array.toList_inj.1
    rw [Array.toList_setIfInBounds, Nat.zero_add, List.toList_toArray, set_mid _ _ size o v ho (by rw [Array.length_toList]; exact hle), row_get E.len h5 hz, hy]
  rw [hcur] at hg'
  have hs' := SlR.mk (l := l.set j y) E.len hg' (by simpa using h2) h3 hs1 hs2
  rw [List.length_set] at hs'
  exact hk W' (h.upd hi (hf.mono fun b _ hb => by rw [hb]; rfl) _ hs' fun b hb => .inl hb)
theorem add_zero (q : Addr) : q.add 0 = q := by unfold Addr.add; simp
theorem Ow.sfld0 {t el : TypeId} {size : Nat} {enc : α → List Value} {a : Option Addr} {n c : Nat} {l : List α} {x : Int} {j : Nat} {y z : α} {v : Value} {K : World → Prop} (h : Ow S W0 W rs) (E : ElT P t el size enc) (i : Nat) (hi : rs[i]? = some (.sl el size enc (.slice a n c) l)) (hx : x = (j : Int)) (hz : l[j]? = some z) (ho : 0 < size) (hy : enc y = (enc z).set 0 v) (hv : v.cells = #[v]) (h1 : oneC v = true)
    (hk : ∀ W', Ow S W0 W' (rs.set i (.sl el size enc (.slice a n c) (l.set j y))) → K W') : IdxS a n x size fun q => StV 1 W q v K := by
  have := h.sfld E i hi hx hz ho hy hv h1 hk
  simpa only [add_zero] using this
end
end Go.Vc
namespace Go.Proofs.Ytdfaocbpghjboaa.Ch
open Go Go.RowKit Go.Vc Go.Proofs.Ytdfaocbpghjboaa.Fs

theorem kset_len1 {α β : Type} [DecidableEq α] {kv : List (α × β)} {a : α} {b : β} : (kset kv a b).length ≤ kv.length + 1 := by
  unfold kset
  split
  · rw [List.length_map]; omega
  · simp
theorem eset_len1 {e : Ek} {p : Pl} {t : Tp} : (eset e p t).1.length ≤ e.length + 1 := by
  unfold eset
  split
  · split
    · exact kset_len1
    · exact Nat.le_succ _
  · exact Nat.le_succ _
/-- fill: some cache; what its last element did to it. -/
def Last (l : List Hd) (e : Ek) : Prop := e.length ≤ l.length ∧ (l.length ≤ 300 → ∀ y r, l = r ++ [y] → ∃ e0 p, p.1 = (y.1, y.2.1.1) ∧ GoodE e0 ∧ e0.length ≤ r.length ∧ e = (eset e0 p y.2.1).1)
theorem fillLast_gives {W : World} {l : List Hd} {a : Option Addr} {n c : Nat} (hr : RdL W 4 encH a l) (hn : n = l.length) (hw : ∀ h ∈ l, WfD W h) :
    Gives Try.prog 21 #[.slice a n c] W fun v W' => ∃ q o N kv, v = pt q ∧ GoodE (er kv) ∧ Last l (er kv) ∧ Ow NoS W W' (caL q o N kv) := F21_fn (by
  unfold F21
  subst hn
  refine (Ow.start NoS W).cnew fun q W1 hS => AsP.mk ?_
  refine Lp.of (fun s : Nat × Option Nat × (Nat → Prop) × List (Pl × Tm) => [.int .i64 (s.1 : Int)]) (fun s W' => s.1 ≤ l.length ∧ s.1 ≤ 300 ∧ GoodE (er s.2.2.2) ∧ Last (l.take s.1) (er s.2.2.2) ∧ Ow NoS W W' (caL q s.2.1 s.2.2.1 s.2.2.2 ++ [])) (fun s => l.length - s.1) (0, none, fun _ => False, []) rfl ⟨Nat.zero_le _, Nat.zero_le _, goodNil, ⟨Nat.zero_le _, fun _ y r h => by cases r <;> cases h⟩, hS⟩ ?_
  rintro ⟨j, o, N, kv⟩ W2 k ⟨hj, hj3, hG, hL, hS⟩ hk
  dsimp only at hj hj3 hG hL hS hk ⊢
  refine AsI.mk (Join.use fun J hJ => ?_)
  have fin : (j = l.length ∨ 300 ≤ j) → J false W2 := fun he => by
    rw [hJ]; dsimp only
    refine If.neg rfl ⟨q, o, N, kv, rfl, hG, ?_, hS⟩
    rcases he with he | he
    · rw [he, List.take_length] at hL; exact hL
    · by_cases hlt : j = l.length
      · rw [hlt, List.take_length] at hL; exact hL
      · refine ⟨Nat.le_trans hL.1 (by rw [List.length_take]; omega), fun h3 => by omega⟩
  refine If.dec (fun hlt => ?_) fun hge => fin (.inl (by have : ¬ (j : Int) < (l.length : Int) := hge; omega))
  by_cases h300 : (j : Int) < 300
  · rw [decide_eq_true h300, hJ]; dsimp only
    have hlt' : j < l.length := by have : (j : Int) < (l.length : Int) := hlt; omega
    have ra := List.getElem?_eq_getElem hlt'
    have htk : l.take (j + 1) = l.take j ++ [l[j]] := List.take_succ_eq_append_getElem hlt'
    generalize l[j] = x at ra htk
    obtain ⟨hwt, hd, hid⟩ := hw x (List.mem_of_getElem? ra)
    refine If.pos rfl ((hr.bel hS.bel).get0 encH_len rfl rfl ra (u := .int .u32 x.1) rfl (AsI.mk (hS.any fun W3 hS => (hr.bel hS.bel).getN encH_len rfl rfl ra (cs := encT x.2) rfl rfl ?_)))
    refine hS.cset (p := mkP x.1 x.2.1.1 hd hid) (t := x.2) hG (RdL.bel hwt.1 hS.bel) rfl (fun hne b hb => hS.offOld (wf_old hwt.1 hne hb)) fun o' N' kv' W4 he hS => AsI.mk ?_
    rw [nsucc (by omega)]
    refine hk (j + 1, o', N', kv') W4 ⟨hlt', by dsimp only; omega, by dsimp only; rw [he]; exact eset_good hG hwt.2.1 rfl, ?_, hS⟩ (by dsimp only; omega)
    dsimp only
    rw [he, htk]
    refine ⟨?_, fun _ y r hyr => ?_⟩
    · have h1 := eset_len1 (e := er kv) (p := mkP x.1 x.2.1.1 hd hid) (t := x.2.1)
      have h2 := hL.1
      rw [List.length_append, List.length_singleton]; omega
    · have hyr' := List.append_inj_right' hyr rfl
      have hrr := List.append_inj_left' hyr rfl
      cases hyr'
      subst hrr
      exact ⟨er kv, mkP x.1 x.2.1.1 hd hid, rfl, hG, hL.1, rfl⟩
  · rw [decide_eq_false h300]; exact fin (.inr (by omega)))
theorem _root_.Go.Vc.Ow.cfillL {W0 W : World} {rs : List Res} {kp : List PanicEntry → World → Prop} {k : Value → World → Prop} {l : List Hd} {a : Option Addr} {n c : Nat} (h : Ow NoS W0 W rs) (hr : RdL W 4 encH a l) (hn : n = l.length) (hw : ∀ h ∈ l, WfD W h)
    (hk : ∀ q o N kv W', GoodE (er kv) → Last l (er kv) → Ow NoS W0 W' (caL q o N kv ++ rs) → k (pt q) W') : CallK Try.prog 21 #[.slice a n c] W kp k :=
  CallK.mk (fillLast_gives hr hn hw) fun v W' hv => by
    obtain ⟨q, o, N, kv, rfl, hG, hL, ho⟩ := hv
    refine hk q o N kv W' hG hL (Ow.frame (us := []) h ⟨ho.fr.mono fun b _ h => h.elim, ho.ok, fun i r b hi hb => ⟨(ho.lt i r b hi hb).1, .inr ((ho.lt i r b hi hb).2.resolve_left fun h => h)⟩, ho.dis⟩)
theorem _root_.Go.Vc.Ow.ccloneG {S : Nat → Prop} {W0 W : World} {rs : List Res} {kp : List PanicEntry → World → Prop} {k : Value → World → Prop} {q : Nat} {o : Option Nat} {N : Nat → Prop} {kv : List (Pl × Tm)} (h : Ow S W0 W (caL q o N kv ++ rs)) (hG : GoodE (er kv))
    (hk : ∀ q' o' N' kv' W', GoodE (er kv') → (∀ x, x ∈ er kv' ↔ x ∈ er kv) → Ow S W0 W' (caL q' o' N' kv' ++ (caL q o N kv ++ rs)) → k (pt q') W') : CallK Try.prog 23 #[pt q] W kp k := by
  refine h.callF (fun hS => clone_gives hS hG) ?_
  rintro _ _ W1 ⟨q', o', N', kv', rfl, ⟨ks, hp, hpw, he⟩, rfl⟩ hS
  have hm : ∀ x, x ∈ er kv' ↔ x ∈ er kv := fun z => by rw [he]; exact prs_mem hG (fun p => hp.mem_iff) z
  refine hk q' o' N' kv' W1 ?_ hm hS
  refine ⟨by rw [he, prs_keys]; exact hp.nodup_iff.2 hG.1, ?_, fun x hx => hG.2.2 x ((hm x).1 hx)⟩
  have := hp.length_eq
  rw [List.length_map] at this
  have h64 := hG.2.1
  rw [he]; unfold prs
  rw [List.length_map]; omega
end Go.Proofs.Ytdfaocbpghjboaa.Ch
