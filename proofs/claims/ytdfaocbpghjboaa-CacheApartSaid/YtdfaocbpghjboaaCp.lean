/- The cache and the reference's list, plainly. -/
import Derived.Test.YtdfaocbpghjboaaCn
namespace Go.Proofs.Ytdfaocbpghjboaa.Ch
open Go Go.RowKit Go.Vc Go.Proofs.Ytdfaocbpghjboaa.Fs

/-- Which stands ahead, of what is held. -/
def ltD (a b : Hd) : Prop := a.1 < b.1 ∨ (a.1 = b.1 ∧ a.2.1.1 < b.2.1.1)
/-- The list has what the cache has, in order. -/
structure IsL (e : Ek) (l : List Hd) : Prop where
  srt : l.Pairwise ltD
  to : ∀ h ∈ l, ∃ p, (p, h.2.1) ∈ e ∧ p.1.1 = h.1
  of : ∀ p t, (p, t) ∈ e → ∃ h ∈ l, h.2.1 = t ∧ h.1 = p.1.1
theorem GoodE.id {e : Ek} (h : GoodE e) {p : Pl} {t : Tp} (hm : (p, t) ∈ e) : p.1.2 = t.1 := (h.2.2 _ hm).2.2
theorem GoodE.get {e : Ek} (h : GoodE e) {p : Pl} {t : Tp} (hm : (p, t) ∈ e) : kget e p = some t := kget_mem h.1 hm
theorem pl_eq {p q : Pl} (h1 : p.1.1 = q.1.1) (h2 : p.1.2 = q.1.2) : p = q := Subtype.ext (Prod.ext h1 h2)
theorem GoodE.uniq {e : Ek} (h : GoodE e) {p q : Pl} {t u : Tp} (h1 : (p, t) ∈ e) (h2 : (q, u) ∈ e) (e1 : p.1.1 = q.1.1) (e2 : t.1 = u.1) : p = q ∧ t = u := by
  have hpq : p = q := pl_eq e1 (by rw [h.id h1, h.id h2, e2])
  subst hpq
  exact ⟨rfl, Option.some.inj ((h.get h1).symm.trans (h.get h2))⟩
theorem ltD_irr {a b : Hd} (h : ltD a b) : ¬ (a.1 = b.1 ∧ a.2.1.1 = b.2.1.1) := by unfold ltD at h; omega
theorem ltD_asym {a b : Hd} (h : ltD a b) : ¬ ltD b a := by unfold ltD at *; omega
theorem IsL.nil : IsL [] [] := ⟨List.Pairwise.nil, fun _ h => (by cases h), fun _ _ h => (by cases h)⟩
/-- One order alone. -/
theorem sortedD_eq : ∀ {l d : List Hd}, l.Pairwise ltD → d.Pairwise ltD → (∀ h ∈ l, ∃ g ∈ d, pl g = pl h) → (∀ g ∈ d, ∃ h ∈ l, pl h = pl g) → l.map pl = d.map pl
  | [], [], _, _, _, _ => rfl
  | [], b :: d, _, _, _, h => by obtain ⟨_, hx, _⟩ := h b List.mem_cons_self; cases hx
  | a :: l, [], _, _, h, _ => by obtain ⟨_, hx, _⟩ := h a List.mem_cons_self; cases hx
  | a :: l, b :: d, hl, hd, h1, h2 => by
    have hl' := List.pairwise_cons.1 hl
    have hd' := List.pairwise_cons.1 hd
    have key : ∀ {x y : Hd}, pl x = pl y → x.1 = y.1 ∧ x.2.1.1 = y.2.1.1 := fun {x y} e => ⟨congrArg (fun z : Hp => z.1) e, congrArg (fun z : Hp => z.2.1) e⟩
    have lt_of : ∀ {x y x' y' : Hd}, pl x = pl x' → pl y = pl y' → ltD x y → ltD x' y' := fun {x y x' y'} e1 e2 h => by
      have k1 := key e1; have k2 := key e2; unfold ltD at *; omega
    have hab : pl a = pl b := by
      obtain ⟨g, hg, e1⟩ := h1 a List.mem_cons_self
      obtain ⟨x, hx, e2⟩ := h2 b List.mem_cons_self
      rcases List.mem_cons.1 hg with rfl | hg
      · exact e1.symm
      · rcases List.mem_cons.1 hx with rfl | hx
        · exact e2
        · have k1 := hd'.1 g hg
          have k2 := hl'.1 x hx
          exact absurd (lt_of e1.symm e2.symm (lt_of rfl rfl (lt_of rfl e2 k2))) (by
            intro k3
            have a1 := key e1; have a2 := key e2
            unfold ltD at *; omega)
    have tl : l.map pl = d.map pl := sortedD_eq hl'.2 hd'.2 (fun h hh => by
      obtain ⟨g, hg, e1⟩ := h1 h (List.mem_cons_of_mem _ hh)
      rcases List.mem_cons.1 hg with rfl | hg
      · have k := hl'.1 h hh
        have a1 := key (hab.trans e1)
        exact absurd a1 (ltD_irr k)
      · exact ⟨g, hg, e1⟩) (fun g hg => by
      obtain ⟨h, hh, e1⟩ := h2 g (List.mem_cons_of_mem _ hg)
      rcases List.mem_cons.1 hh with rfl | hh
      · have k := hd'.1 g hg
        have a1 := key (hab.symm.trans e1)
        exact absurd a1 (ltD_irr k)
      · exact ⟨h, hh, e1⟩)
    rw [List.map_cons, List.map_cons, hab, tl]
theorem IsL.eq {e : Ek} {l d : List Hd} (hl : IsL e l) (hd : IsL e d) : l.map pl = d.map pl := sortedD_eq hl.srt hd.srt
  (fun h hh => by
    obtain ⟨p, hp, e1⟩ := hl.to h hh
    obtain ⟨g, hg, e2, e3⟩ := hd.of p _ hp
    exact ⟨g, hg, Prod.ext (e3.trans e1) e2⟩)
  (fun g hg => by
    obtain ⟨p, hp, e1⟩ := hd.to g hg
    obtain ⟨h, hh, e2, e3⟩ := hl.of p _ hp
    exact ⟨h, hh, Prod.ext (e3.trans e1) e2⟩)
theorem IsList.isL {e : Ek} (hG : GoodE e) {l : List Hd} (h : IsList e (l.map pl)) : IsL e l := by
  obtain ⟨ks, hp, hs, hl⟩ := h
  refine ⟨?_, fun h hh => ?_, fun p t hm => ?_⟩
  · rw [List.pairwise_iff_getElem]
    intro i j hi hj hij
    obtain ⟨p, h1, h2, h3, h4⟩ := lst_at hp hG hl (List.getElem?_eq_getElem hi)
    obtain ⟨q, k1, k2, k3, k4⟩ := lst_at hp hG hl (List.getElem?_eq_getElem hj)
    obtain ⟨a1, rfl⟩ := List.getElem?_eq_some_iff.1 h1
    obtain ⟨b1, rfl⟩ := List.getElem?_eq_some_iff.1 k1
    have := List.pairwise_iff_getElem.1 hs i j a1 b1 hij
    unfold ltP at this
    unfold ltD
    rw [h3, k3, ← h4, ← k4]; exact this
  · obtain ⟨i, hi⟩ := List.getElem?_of_mem hh
    obtain ⟨p, _, h2, h3, _⟩ := lst_at hp hG hl hi
    exact ⟨p, kget_some h2, h3.symm⟩
  · have hk : p ∈ ks := hp.mem_iff.2 (List.mem_map.2 ⟨(p, t), hm, rfl⟩)
    have : (p.1.1, t) ∈ l.map pl := by
      rw [hl]; exact List.mem_map.2 ⟨p, hk, by rw [hG.get hm]; rfl⟩
    obtain ⟨h, hh, e⟩ := List.mem_map.1 this
    exact ⟨h, hh, congrArg Prod.snd e, congrArg Prod.fst e⟩
theorem IsL.len {e : Ek} (hG : GoodE e) {l : List Hd} (h : IsL e l) : l.length = e.length := by
  have n1 : (l.map pl).Nodup := List.pairwise_map.2 (h.srt.imp fun {a b} hlt (e : pl a = pl b) => ltD_irr hlt ⟨congrArg (fun z : Hp => z.1) e, congrArg (fun z : Hp => z.2.1) e⟩)
  have n2 : (e.map fun x => ((x.1.1.1, x.2) : Hp)).Nodup := by
    have : e.Pairwise (fun x y => x ≠ y) := (List.pairwise_map.1 hG.1).imp fun hne e1 => hne (congrArg Prod.fst e1)
    refine List.pairwise_map.2 (List.Pairwise.imp_of_mem ?_ this)
    rintro ⟨p, t⟩ ⟨q, u⟩ hx hy hne e1
    have e2 : p.1.1 = q.1.1 := congrArg (fun z : Hp => z.1) e1
    have e3 : t = u := congrArg (fun z : Hp => z.2) e1
    obtain ⟨rfl, rfl⟩ := hG.uniq hx hy e2 (by rw [e3])
    exact hne rfl
  have hp : (l.map pl).Perm (e.map fun x => ((x.1.1.1, x.2) : Hp)) := (List.perm_ext_iff_of_nodup n1 n2).2 fun a => by
    constructor
    · intro ha
      obtain ⟨g, hg, rfl⟩ := List.mem_map.1 ha
      obtain ⟨p, hp, e1⟩ := h.to g hg
      exact List.mem_map.2 ⟨_, hp, Prod.ext e1 rfl⟩
    · intro ha
      obtain ⟨⟨p, t⟩, hx, rfl⟩ := List.mem_map.1 ha
      obtain ⟨g, hg, e1, e2⟩ := h.of p t hx
      exact List.mem_map.2 ⟨g, hg, Prod.ext e2 e1⟩
  have := hp.length_eq
  simpa using this
theorem ats_iff {p : Pl} {h : Hd} : ats p.1 h = true ↔ h.1 = p.1.1 ∧ h.2.1.1 = p.1.2 := by
  unfold ats; rw [Bool.and_eq_true, beq_iff_eq, beq_iff_eq]
theorem IsL.fnd {e : Ek} (hG : GoodE e) {l : List Hd} (h : IsL e l) (p : Pl) : (fnd l p.1).map (·.1) = kget e p := by
  unfold Ch.fnd
  cases hf : l.find? (ats p.1) with
  | none =>
    refine (kget_none fun x hx he => ?_).symm
    obtain ⟨q, t⟩ := x
    obtain ⟨g, hg, e1, e2⟩ := h.of q t hx
    dsimp only at he
    subst he
    exact absurd (ats_iff.2 ⟨e2, by rw [e1, hG.id hx]⟩) (List.find?_eq_none.1 hf g hg)
  | some g =>
    have hg := List.mem_of_find?_eq_some hf
    obtain ⟨e1, e2⟩ := ats_iff.1 (List.find?_some hf)
    obtain ⟨q, hq, e3⟩ := h.to g hg
    have : q = p := pl_eq (e3.trans e1) (by rw [hG.id hq, e2])
    subst this
    rw [hG.get hq]; rfl
theorem IsL.fnd_some {e : Ek} (hG : GoodE e) {l : List Hd} (h : IsL e l) (p : Pl) : (Ch.fnd l p.1).isSome = (kget e p).isSome := by
  rw [← h.fnd hG p]; cases Ch.fnd l p.1 <;> rfl
theorem IsL.filter {e e' : Ek} {l : List Hd} (h : IsL e l) {f : Hd → Bool} (hs : ∀ p t, (p, t) ∈ e' ↔ (p, t) ∈ e ∧ ∀ g ∈ l, g.2.1 = t → g.1 = p.1.1 → f g = true) (hf : ∀ g ∈ l, f g = true → ∀ p, (p, g.2.1) ∈ e → p.1.1 = g.1 → (p, g.2.1) ∈ e') : IsL e' (l.filter f) := by
  refine ⟨h.srt.sublist List.filter_sublist, fun g hg => ?_, fun p t hm => ?_⟩
  · obtain ⟨hg1, hg2⟩ := List.mem_filter.1 hg
    obtain ⟨p, hp, e1⟩ := h.to g hg1
    exact ⟨p, hf g hg1 hg2 p hp e1, e1⟩
  · obtain ⟨h1, h2⟩ := (hs p t).1 hm
    obtain ⟨g, hg, e1, e2⟩ := h.of p t h1
    exact ⟨g, List.mem_filter.2 ⟨hg, h2 g hg e1 e2⟩, e1, e2⟩
theorem IsL.del {e : Ek} (hG : GoodE e) {l : List Hd} (h : IsL e l) (p : Pl) : IsL (kdel e p) (l.filter fun g => !ats p.1 g) := by
  have hd : ∀ q t, (q, t) ∈ kdel e p ↔ (q, t) ∈ e ∧ q ≠ p := fun q t => by unfold kdel; rw [List.mem_filter]; simp
  refine h.filter (fun q t => ?_) fun g hg hf q hq e1 => (hd _ _).2 ⟨hq, fun e2 => ?_⟩
  · rw [hd]
    refine ⟨fun ⟨h1, h2⟩ => ⟨h1, fun g hg e1 e2 => ?_⟩, fun ⟨h1, h2⟩ => ⟨h1, fun e3 => ?_⟩⟩
    · cases ha : ats p.1 g with
      | false => rfl
      | true =>
        obtain ⟨e3, e4⟩ := ats_iff.1 ha
        exact absurd (pl_eq (e2.symm.trans e3) (by rw [hG.id h1, ← e1, e4])) h2
    · subst e3
      obtain ⟨g, hg, e1, e2⟩ := h.of q t h1
      have := h2 g hg e1 e2
      rw [ats_iff.2 ⟨e2, by rw [e1, hG.id h1]⟩] at this
      cases this
  · subst e2
    rw [ats_iff.2 ⟨e1.symm, (hG.id hq).symm⟩] at hf; cases hf
theorem IsL.dropAll {e : Ek} {l : List Hd} (h : IsL e l) (d : Int) (b : Bool) : IsL (edall e d b) (l.filter (kept d b)) := by
  have hd : ∀ q t, (q, t) ∈ edall e d b ↔ (q, t) ∈ e ∧ gone d b (q, t) = false := fun q t => by unfold edall; rw [List.mem_filter]; simp
  have hk : ∀ (g : Hd) (q : Pl), q.1.1 = g.1 → kept d b g = !gone d b (q, g.2.1) := fun g q e1 => by unfold kept gone; rw [e1]
  refine h.filter (fun q t => ?_) fun g hg hf q hq e1 => (hd _ _).2 ⟨hq, by rw [hk g q e1] at hf; cases hc : gone d b (q, g.2.1) with | false => rfl | true => rw [hc] at hf; cases hf⟩
  rw [hd]
  refine ⟨fun ⟨h1, h2⟩ => ⟨h1, fun g hg e1 e2 => ?_⟩, fun ⟨h1, h2⟩ => ⟨h1, ?_⟩⟩
  · rw [hk g q e2.symm, e1, h2]; rfl
  · obtain ⟨g, hg, e1, e2⟩ := h.of q t h1
    have := h2 g hg e1 e2
    rw [hk g q e2.symm, e1] at this
    cases hc : gone d b (q, t) with
    | false => rfl
    | true => rw [hc] at this; cases this
theorem ahd_iff {p : Pl} {h : Hd} : ahd p.1 h = true ↔ h.1 < p.1.1 ∨ (h.1 = p.1.1 ∧ h.2.1.1 < p.1.2) := by
  unfold ahd; rw [Bool.or_eq_true, Bool.and_eq_true, decide_eq_true_eq, decide_eq_true_eq, beq_iff_eq]
theorem insP_mem {p : Int × Int} {h x : Hd} {r : List Hd} : x ∈ insP p h r ↔ x = h ∨ x ∈ r := by
  unfold insP
  rw [List.mem_append, List.mem_cons]
  have := List.takeWhile_append_dropWhile (p := ahd p) (l := r)
  constructor
  · rintro (h1 | h1 | h1)
    · exact .inr ((List.takeWhile_sublist _).subset h1)
    · exact .inl h1
    · exact .inr ((List.dropWhile_sublist _).subset h1)
  · rintro (h1 | h1)
    · exact .inr (.inl h1)
    · rw [← this, List.mem_append] at h1
      rcases h1 with h1 | h1
      · exact .inl h1
      · exact .inr (.inr h1)
theorem insP_sorted {p : Pl} {h : Hd} (h1 : h.1 = p.1.1) (h2 : h.2.1.1 = p.1.2) : ∀ {r : List Hd}, r.Pairwise ltD → (∀ x ∈ r, ¬ (x.1 = p.1.1 ∧ x.2.1.1 = p.1.2)) → (insP p.1 h r).Pairwise ltD
  | [], _, _ => List.pairwise_singleton _ _
  | x :: r, hs, hn => by
    have hs' := List.pairwise_cons.1 hs
    unfold insP
    cases ha : ahd p.1 x with
    | true =>
      rw [List.takeWhile_cons_of_pos ha, List.dropWhile_cons_of_pos ha]
      refine List.pairwise_cons.2 ⟨fun y hy => ?_, insP_sorted h1 h2 hs'.2 fun y hy => hn y (List.mem_cons_of_mem _ hy)⟩
      rcases insP_mem.1 hy with rfl | hy
      · have := ahd_iff.1 ha; unfold ltD; omega
      · exact hs'.1 y hy
    | false =>
      rw [List.takeWhile_cons_of_neg (by rw [ha]; decide), List.dropWhile_cons_of_neg (by rw [ha]; decide)]
      have hx : ltD h x := by
        have h3 : ¬ (x.1 < p.1.1 ∨ (x.1 = p.1.1 ∧ x.2.1.1 < p.1.2)) := fun e => by rw [ahd_iff.2 e] at ha; cases ha
        have h4 := hn x List.mem_cons_self
        unfold ltD; omega
      refine List.pairwise_cons.2 ⟨fun y hy => ?_, hs⟩
      rcases List.mem_cons.1 hy with rfl | hy
      · exact hx
      · have := hs'.1 y hy; unfold ltD at *; omega
theorem IsL.set {e : Ek} (hG : GoodE e) {l : List Hd} (h : IsL e l) {p : Pl} {t : Tm} (hp : p.1.2 = t.1.1) : IsL (kset e p t.1) (insP p.1 (p.1.1, t) (l.filter fun g => !ats p.1 g)) := by
  have hD := h.del hG p
  have hm : ∀ q u, (q, u) ∈ kset e p t.1 ↔ (q = p ∧ u = t.1) ∨ (q, u) ∈ kdel e p := fun q u => by
    have hdel : (q, u) ∈ kdel e p ↔ (q, u) ∈ e ∧ q ≠ p := by unfold kdel; rw [List.mem_filter]; simp
    rw [hdel]
    unfold kset
    split
    · rename_i hs
      constructor
      · intro hx
        obtain ⟨y, hy, e1⟩ := List.mem_map.1 hx
        split at e1
        · cases e1; exact .inl ⟨rfl, rfl⟩
        · rename_i hne
          subst e1
          exact .inr ⟨hy, hne⟩
      · rintro (⟨rfl, rfl⟩ | ⟨hx, hne⟩)
        · cases hg : kget e q with
          | none => rw [hg] at hs; cases hs
          | some v => exact List.mem_map.2 ⟨(q, v), kget_some hg, by simp⟩
        · exact List.mem_map.2 ⟨(q, u), hx, by simp [hne]⟩
    · rename_i hs
      constructor
      · intro hx
        rcases List.mem_append.1 hx with hx1 | hx1
        · refine .inr ⟨hx1, fun e1 => hs ?_⟩
          rw [← e1, hG.get hx1]; rfl
        · rw [List.mem_singleton] at hx1; cases hx1; exact .inl ⟨rfl, rfl⟩
      · rintro (⟨rfl, rfl⟩ | ⟨hx, _⟩)
        · exact List.mem_append_right _ (List.mem_singleton.2 rfl)
        · exact List.mem_append_left _ hx
  refine ⟨insP_sorted rfl hp.symm hD.srt fun x hx hc => ?_, fun g hg => ?_, fun q u hx => ?_⟩
  · have := (List.mem_filter.1 hx).2
    rw [ats_iff.2 hc] at this; cases this
  · rcases insP_mem.1 hg with rfl | hg
    · exact ⟨p, (hm _ _).2 (.inl ⟨rfl, rfl⟩), rfl⟩
    · obtain ⟨q, hq, e1⟩ := hD.to g hg
      exact ⟨q, (hm _ _).2 (.inr hq), e1⟩
  · rcases (hm q u).1 hx with ⟨rfl, rfl⟩ | hx
    · exact ⟨_, insP_mem.2 (.inl rfl), rfl, rfl⟩
    · obtain ⟨g, hg, e1, e2⟩ := hD.of q u hx
      exact ⟨g, insP_mem.2 (.inr hg), e1, e2⟩
theorem IsL.rset {e : Ek} (hG : GoodE e) {l : List Hd} (h : IsL e l) {p : Pl} {t : Tm} (hp : p.1.2 = t.1.1) : IsL (eset e p t.1).1 (Ch.rset l p.1.1 t).1 ∧ (Ch.rset l p.1.1 t).2 = (eset e p t.1).2 := by
  have ep : ((p.1.1, t.1.1) : Int × Int) = p.1 := Prod.ext rfl hp.symm
  unfold eset Ch.rset
  rw [ep, h.fnd_some hG p, h.len hG]
  split
  · split
    · exact ⟨h.set hG hp, rfl⟩
    · exact ⟨h, rfl⟩
  · exact ⟨h, rfl⟩
theorem IsL.rdrop {e : Ek} (hG : GoodE e) {l : List Hd} (h : IsL e l) (p : Pl) : IsL (edrop e p).1 (Ch.rdrop l p.1).1 ∧ (Ch.rdrop l p.1).2 = (edrop e p).2 := by
  unfold edrop Ch.rdrop
  rw [h.fnd_some hG p]
  split
  · exact ⟨h.del hG p, rfl⟩
  · exact ⟨h, rfl⟩
end Go.Proofs.Ytdfaocbpghjboaa.Ch
