/- The cache: what must come of fixed calls. -/
import Derived.Test.YtdfaocbpghjboaaCm
import Derived.Test.YtdfaocbpghjboaaCb
namespace Go.Proofs.Ytdfaocbpghjboaa.Ch
open Go Go.RowKit Go.Vc Go.Proofs.Ytdfaocbpghjboaa.Fs

theorem ltP_irr (a : Pl) : ¬ ltP a a := by unfold ltP; omega
theorem ltP_asym {a b : Pl} (h : ltP a b) : ¬ ltP b a := by unfold ltP at *; omega
/-- Rising places: one order alone. -/
theorem sorted_eq : ∀ {l d : List Pl}, l.Perm d → l.Pairwise ltP → d.Pairwise ltP → l = d
  | [], d, hp, _, _ => by rw [List.nil_perm.1 hp]
  | a :: l, d, hp, hl, hd => by
    cases d with
    | nil => exact absurd hp.length_eq (by simp)
    | cons b d =>
      have hl' := List.pairwise_cons.1 hl
      have hd' := List.pairwise_cons.1 hd
      have hab : a = b := by
        rcases List.mem_cons.1 (hp.mem_iff.1 (List.mem_cons_self (a := a) (l := l))) with e | e
        · exact e
        · rcases List.mem_cons.1 (hp.mem_iff.2 (List.mem_cons_self (a := b) (l := d))) with e' | e'
          · exact e'.symm
          · exact absurd (hl'.1 b e') (ltP_asym (hd'.1 a e))
      subst hab
      rw [sorted_eq (List.Perm.cons_inv hp) hl'.2 hd'.2]
theorem wfFour (id : Int) : WfT (four id) := fun s hs => by
  obtain rfl : s = (8, 0, 4) := by simpa [four] using hs
  exact ⟨⟨8, rfl, wf_i64.2 (by decide)⟩, ⟨0, rfl, wf_u32.2 (by decide)⟩, ⟨4, rfl, wf_i64.2 (by decide)⟩, trivial⟩
abbrev mkP (d id : Int) (h1 : 0 ≤ d ∧ d ≤ 4294967295) (h2 : -9223372036854775808 ≤ id ∧ id ≤ 9223372036854775807) : Pl := ⟨(d, id), ⟨d, rfl, wf_u32.2 h1⟩, ⟨id, rfl, wf_i64.2 h2⟩, trivial⟩
section
variable {S : Nat → Prop} {W0 W : World} {rs : List Res} {kp : List PanicEntry → World → Prop} {k : Value → World → Prop} {q : Nat} {o : Option Nat} {N : Nat → Prop} {kv : List (Pl × Tm)}
theorem _root_.Go.Vc.Ow.setFour (h : Ow S W0 W (caL q o N kv ++ rs)) (hG : GoodE (er kv)) (p : Pl) (hk : ∀ o' N' kv' W', er kv' = (eset (er kv) p (four p.1.2)).1 → Ow S W0 W' (caL q o' N' kv' ++ rs) → k (.int .i64 (eset (er kv) p (four p.1.2)).2) W') :
    CallK Try.prog 32 #[.int .i64 p.1.2] W kp fun u W1 => CallK Try.prog 10 #[pt q, .int .u32 p.1.1, u] W1 kp k :=
  CallK.mk (four_gives p.1.2 W) fun v W1 hv => by
    obtain ⟨⟨b, rfl, hs, hb⟩, bel⟩ := hv
    have h1 := h.newsl bel hs fun g hg => by cases hg; exact hb
    have h2 : Ow S W0 W1 (caL q o N kv ++ (rs ++ [.sl 54 3 encS (.slice (some ⟨b, 0, none⟩) 1 1) (four p.1.2).2.2])) := Ow.swap (us := [.sl 54 3 encS (.slice (some ⟨b, 0, none⟩) 1 1) (four p.1.2).2.2]) h1
    refine h2.cset (p := p) (t := (four p.1.2, some ⟨b, 0, none⟩, 1)) hG (SlR.rd hs) rfl (fun _ a ha => ?_) fun o' N' kv' W' he ho => hk o' N' kv' W' he ?_
    · cases ha
      exact h2.off (i := rs.length + 0) (at_right rfl) rfl
    · have : Ow S W0 W' ((caL q o' N' kv' ++ rs) ++ [.sl 54 3 encS (.slice (some ⟨b, 0, none⟩) 1 1) (four p.1.2).2.2]) := ho
      exact this.front
theorem _root_.Go.Vc.Ow.cclone (h : Ow S W0 W (caL q o N kv ++ rs)) (hG : GoodE (er kv)) (hk : ∀ q' o' N' kv' W', (∃ ks : List Pl, ks.Perm ((er kv).map (·.1)) ∧ ks.Pairwise ltP ∧ er kv' = prs (er kv) ks) → Ow S W0 W' (caL q' o' N' kv' ++ (caL q o N kv ++ rs)) → k (pt q') W') :
    CallK Try.prog 23 #[pt q] W kp k :=
  h.callF (fun h => clone_gives h hG) fun v as' W' hq ho => by
    obtain ⟨q', o', N', kv', rfl, hr, rfl⟩ := hq; exact hk q' o' N' kv' W' hr ho
end
abbrev P21 : Pl := mkP 2 256 (by decide) (by decide)
abbrev P11 : Pl := mkP 1 256 (by decide) (by decide)
abbrev P10 : Pl := mkP 1 255 (by decide) (by decide)
abbrev eA : Ek := [(P21, four 256)]
abbrev eB : Ek := [(P21, four 256), (P11, four 256)]
theorem goodNil : GoodE [] := ⟨List.nodup_nil, by decide, fun x hx => by cases hx⟩
theorem s1 : eset [] P21 (four 256) = (eA, 0) := by kernel_rfl
theorem s2 : eset eA P11 (four 256) = (eB, 0) := by kernel_rfl
theorem s3 : eset eB P10 (four 255) = (eB, 3) := by kernel_rfl
theorem goodA : GoodE eA := by have := eset_good (p := P21) goodNil (wfFour 256) rfl; rwa [s1] at this
theorem goodB : GoodE eB := by have := eset_good (p := P11) goodA (wfFour 256) rfl; rwa [s2] at this
theorem ksB {ks : List Pl} (hp : ks.Perm (eB.map (·.1))) (hs : ks.Pairwise ltP) : ks = [P11, P21] := by
  refine sorted_eq (hp.trans (List.Perm.swap _ _ _)) hs ?_
  refine List.pairwise_cons.2 ⟨fun x hx => ?_, List.pairwise_singleton _ _⟩
  obtain rfl := List.mem_singleton.1 hx
  exact .inl (by decide)
theorem d1 : edrop (prs eB [P11, P21]) P11 = (eA, 0) := by kernel_rfl
theorem d2 : edrop eA P11 = (eA, 4) := by kernel_rfl
theorem g1 : (kget eB P11).isSome = true := by kernel_rfl
theorem g2 : (kget eA P11).isSome = false := by kernel_rfl
theorem l2 : (edall eB 2 false).length = 1 := by kernel_rfl
theorem alive_gives (W : World) : Gives Try.prog 19 #[] W fun v W' => v = .bool true ∧ Below W.heap.size W W' := F19_fn (_u := ()) (by
  unfold F19
  refine (Ow.start NoS W).cnew fun q W1 hS => AsP.mk (nil_ptr_eql t23 (AsB.mk (Join.use fun J hJ => If.neg rfl ?_)))
  refine Ow.setFour (rs := []) hS goodNil P21 fun o1 N1 kv1 W2 he1 hS => ?_
  rw [show er [] = ([] : Ek) from rfl, s1] at he1 ⊢
  refine AsI.mk ?_
  rw [hJ]; dsimp only
  refine Join.use fun J1 hJ1 => If.neg rfl ?_
  refine Ow.setFour (rs := []) hS (by rw [he1]; exact goodA) P11 fun o2 N2 kv2 W3 he2 hS => ?_
  rw [he1, s2] at he2 ⊢
  refine AsI.mk ?_
  rw [hJ1]; dsimp only
  refine Join.use fun J2 hJ2 => If.neg rfl ?_
  refine Ow.setFour (rs := []) hS (by rw [he2]; exact goodB) P10 fun o3 N3 kv3 W4 he3 hS => ?_
  rw [he2, s3] at he3 ⊢
  refine AsI.mk ?_
  rw [hJ2]; dsimp only
  have hG : GoodE (er kv3) := by rw [he3]; exact goodB
  refine If.neg rfl (Ow.clist (rs := []) hS hG fun a31 c31 l N4 W5 hl hS => AsL.mk rfl ?_)
  obtain ⟨ks, hp, hpw, hl⟩ := hl
  rw [he3] at hp hl
  obtain rfl := ksB hp hpw
  have hll : l.length = 2 := by have := congrArg List.length hl; simpa [lst] using this
  obtain ⟨x0, x1, rfl⟩ : ∃ x0 x1, l = [x0, x1] := by
    cases l with
    | nil => cases hll
    | cons x0 l =>
      cases l with
      | nil => cases hll
      | cons x1 l =>
        cases l with
        | nil => exact ⟨x0, x1, rfl⟩
        | cons _ _ => simp at hll
  have hx0 : x0.1 = 1 := congrArg Prod.fst (List.cons.inj hl).1
  have hS : Ow NoS W W5 (caL q o3 N3 kv3 ++ [.sl 49 4 encH (.slice a31 [x0, x1].length c31) [x0, x1]]) := hS.pick [2, 3, 4, 0] (by decide) rfl
  refine hS.cclone hG fun q' o' N' kv' W6 hc hS => AsP.mk (Join.use fun J3 hJ3 => If.neg rfl ?_)
  obtain ⟨ks', hp', hpw', hc⟩ := hc
  rw [he3] at hp' hc
  obtain rfl := ksB hp' hpw'
  refine (hS.rd 6 rfl).get0 encH_len rfl rfl (j := 0) (x := x0) rfl (u := .int .u32 x0.1) rfl (AsI.mk ?_)
  rw [hx0, hJ3]; dsimp only
  refine Join.use fun J4 hJ4 => If.neg rfl (nil_ptr_eql t23 (AsB.mk ?_))
  rw [hJ4]; dsimp only
  refine Join.use fun J5 hJ5 => If.neg rfl ?_
  refine Ow.cdrop P11 hS fun o5 N5 kv5 W7 he5 hS => ?_
  rw [hc, d1] at he5 ⊢
  refine AsI.mk ?_
  rw [hJ5]; dsimp only
  refine Join.use fun J6 hJ6 => If.neg rfl ?_
  refine Ow.cdrop P11 hS fun o6 N6 kv6 W8 he6 hS => ?_
  rw [he5, d2] at he6 ⊢
  refine AsI.mk ?_
  rw [hJ6]; dsimp only
  refine If.neg rfl ?_
  have hS : Ow NoS W W8 (caL q o3 N3 kv3 ++ caL q' o6 N6 kv6) := hS.pick [3, 4, 5, 0, 1, 2] (by decide) rfl
  refine hS.cfind P11 hG fun u W9 hu hS => AsT2.mk (AsB.mk ?_)
  refine hS.new fun q4 W10 hS => hS.stw 0 rfl (cs := encT u) rfl rfl rfl fun W11 hS => ?_
  have hS : Ow NoS W W11 (caL q' o6 N6 kv6 ++ caL q o3 N3 kv3) := hS.pick [5, 6, 7, 2, 3, 4] (by decide) rfl
  refine hS.cfind P11 (by rw [he6]; exact goodA) fun u' W12 hu' hS => AsT2.mk (AsB.mk ?_)
  refine hS.new fun q6 W13 hS => hS.stw 0 rfl (cs := encT u') rfl rfl rfl fun W14 hS => Join.use fun J7 hJ7 => ?_
  rw [he3, g1, he6, g2]
  refine If.pos rfl ?_
  rw [hJ7]; dsimp only
  have hS : Ow NoS W W14 (caL q o3 N3 kv3 ++ []) := hS.pick [5, 6, 7] (by decide) rfl
  refine Join.use fun J8 hJ8 => If.pos rfl (hS.cdall 2 false hG fun o8 N8 kv8 W15 he8 hS => ?_)
  rw [he3, l2]
  refine AsI.mk ?_
  rw [hJ8]; dsimp only
  refine Join.use fun J9 hJ9 => If.pos (by kernel_rfl) ?_
  refine CallK.mk (four_gives 256 W15) ?_
  rintro _ W16 ⟨⟨b, rfl, hs, _⟩, bel⟩
  have hS := hS.more bel
  refine hS.callv (set_nil (t := (four 256, some ⟨b, 0, none⟩, 1)) 1 W16) fun W17 hS => AsI.mk ?_
  rw [hJ9]; dsimp only
  refine Join.use fun J10 hJ10 => If.pos rfl (hS.callv (drop_nil 1 1 W17) fun W18 hS => AsI.mk ?_)
  rw [hJ10]; dsimp only
  refine Join.use fun J11 hJ11 => If.pos rfl ?_
  refine hS.call (clone_nil W18) ?_
  rintro _ W19 ⟨qn, rfl⟩ hS
  refine AsP.mk (nil_ptr_neq t23 (AsB.mk ?_))
  rw [hJ11]; dsimp only
  refine Join.use fun J12 hJ12 => If.pos rfl (hS.callv (list_nil W19) fun W20 hS => AsL.mk rfl ?_)
  rw [hJ12]
  exact ⟨rfl, hS.bel⟩)
end Go.Proofs.Ytdfaocbpghjboaa.Ch
