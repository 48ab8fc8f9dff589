/- melt: what must come of fixed calls. -/
import Derived.Test.YtcagnabglppenaaMe
namespace Go.Proofs.Ytcagnabglppenaa.Me
open Go Go.RowKit Go.Vc Go.Proofs.Ytcagnabglppenaa.Fs Go.Proofs.Ytcagnabglppenaa.Px Go.Proofs.Ytcagnabglppenaa.Hq Go.Proofs.Ytcagnabglppenaa.Sv

/-- A summary whose counts are a new slice. -/
def SvV (W : World) (x : Sv) (v : Value) (W' : World) : Prop := ∃ a c, v = .agg (hdS x a x.l.length c).toArray ∧ SlR W' 86 14 encN (.slice a x.l.length c) x.l ∧ ∀ g, (Value.slice a x.l.length c).ownBlock = some g → W.heap.size ≤ g
section
variable {S : Nat → Prop} {W0 W : World} {rs : List Res} {f : FuncId} {args : Array Value} {kp : List PanicEntry → World → Prop} {k : Value → World → Prop}
theorem _root_.Go.Vc.Ow.callSv {x : Sv} (h : Ow S W0 W rs) (hg : Gives Try.prog f args W fun v W' => SvV W x v W' ∧ Below W.heap.size W W')
    (hk : ∀ a c W', Ow S W0 W' (.sl 86 14 encN (.slice a x.l.length c) x.l :: rs) → k (.agg (hdS x a x.l.length c).toArray) W') : CallK Try.prog f args W kp k :=
  CallK.mk hg fun v W' hv => by
    obtain ⟨⟨a, c, rfl, hs, ho⟩, hb⟩ := hv
    exact hk a c W' (h.newsl hb hs ho)
theorem _root_.Go.Vc.Ow.callMrg {z : Sv × Int} (h : Ow S W0 W rs) (hg : Gives Try.prog f args W fun v W' => MrgV W z v W' ∧ Below W.heap.size W W') {x : Sv} {e : Int} (hz : z = (x, e))
    (hk : ∀ a c W', Ow S W0 W' (.sl 86 14 encN (.slice a x.l.length c) x.l :: rs) → k (.tuple #[.agg (hdS x a x.l.length c).toArray, .int .i64 e]) W') : CallK Try.prog f args W kp k :=
  CallK.mk hg fun v W' hv => by
    subst hz
    obtain ⟨⟨a, c, rfl, hs, ho⟩, hb⟩ := hv
    exact hk a c W' (h.newsl hb hs ho)
end
def oneS (k : Int) (p : Pfx) (w : Int) : Sv := ⟨k, w, 0, [(p, w, 0)]⟩
theorem one_may {k w : Int} {p : Pfx} (h1 : 1 ≤ k) (h2 : k ≤ 200) (w1 : 1 ≤ w) (w2 : w ≤ 4611686018427387904) : May (oneS k p w) :=
  ⟨h1, h2, by simp only [oneS]; omega, by simp only [oneS]; omega, Int.le_refl _, by simp only [oneS, List.length_singleton]; omega, List.pairwise_singleton _ _, fun c hc => by
    simp only [oneS, List.mem_singleton] at hc ⊢
    subst hc; simp only; omega, by simp only [oneS, sumC]; omega, by simp only [oneS, sumC]; omega, fun _ => by simp only [oneS, sumC]; omega⟩
theorem one_gives {W : World} (k n w : Int) (h : (Lit.int .i64 n).wf = true) : Gives Try.prog 69 #[.int .i64 k, .int .i64 n, .int .u64 w] W fun v W' => SvV W (oneS k (mkP n h) w) v W' ∧ Below W.heap.size W W' := F69_fn (by
  unfold F69
  have hS := Ow.start NoS W
  refine hS.new fun b6 W1 hS => ?_
  refine ⟨⟨rfl, by decide, rfl, by decide, trivial⟩, ⟨rfl, by decide, trivial⟩, ⟨rfl, by decide, rfl, by decide, trivial⟩, ?_⟩
  refine hS.news (cs := encN (mkP n h, w, 0)) ⟨rfl, by decide, trivial⟩ (by kernel_rfl) fun b14 W2 hS => ?_
  refine ⟨⟨rfl, by decide, rfl, by decide, rfl, by decide, trivial⟩, ?_⟩
  have hb := hS.get 0 (r := .cl b14 (encN (mkP n h, w, 0)) 86) rfl
  have hs := SlR.mk (cap := 1) (l := [(mkP n h, w, 0)]) encN_len hb (Nat.le_refl _) (by decide) rfl rfl
  have hS := hS.upd (i := 0) rfl (Fr.refl _ _) (.sl 86 14 encN (.slice (some ⟨b14, 0, none⟩) 1 1) [(mkP n h, w, 0)]) hs fun b hb => by
    have hb' : some b14 = some b := hb
    cases hb'; exact .inl rfl
  refine hS.stw 1 rfl (cs := hdS (oneS k (mkP n h) w) (some ⟨b14, 0, none⟩) 1 1) rfl rfl rfl fun W3 hS => hS.ldw 1 rfl rfl ?_
  exact ⟨⟨some ⟨b14, 0, none⟩, 1, rfl, hS.get 0 rfl, fun g hg => (hS.lt 0 _ g rfl hg).2.resolve_left id⟩, hS.bel⟩)
theorem p12 : cmpP p1 p2 = -1 := by kernel_rfl
theorem p21 : cmpP p2 p1 = 1 := by kernel_rfl
theorem p11 : cmpP p1 p1 = 0 := by kernel_rfl
def m1' : Sv := ⟨1, 8, 3, [(p1, 5, 0)]⟩
def m5 : Sv := ⟨2, 8, 0, [(p1, 5, 0), (p2, 3, 0)]⟩
def m6 : Sv := ⟨2, 12, 0, [(p1, 9, 0), (p2, 3, 0)]⟩
theorem g1 : mrg (oneS 1 p1 5) (oneS 1 p2 3) = (m1', 0) := by
  rw [mrg_ok (x := oneS 1 p1 5) (y := oneS 1 p2 3) (one_may (by decide) (by decide) (by decide) (by decide)) (one_may (by decide) (by decide) (by decide) (by decide)) rfl (by decide)]
  have : zipS (oneS 1 p1 5) (oneS 1 p2 3) = ⟨1, 8, 0, [(p1, 5, 0), (p2, 3, 0)]⟩ := by
    unfold zipS oneS; simp only [zipL, p12, if_true, joinC]; rfl
  have e : cutS ⟨1, 8, 0, [(p1, 5, 0), (p2, 3, 0)]⟩ = m1' := by kernel_rfl
  rw [this, e]
theorem g2 : mrg (oneS 1 p1 5) (oneS 2 p2 3) = (⟨0, 0, 0, []⟩, 14) := by
  unfold mrg
  rw [if_pos ⟨one_may (by decide) (by decide) (by decide) (by decide), one_may (by decide) (by decide) (by decide) (by decide)⟩, if_neg (by decide)]
theorem g3 : mrg (oneS 1 p1 4611686018427387904) (oneS 1 p2 1) = (⟨0, 0, 0, []⟩, 13) := by
  unfold mrg
  rw [if_pos ⟨one_may (by decide) (by decide) (by decide) (by decide), one_may (by decide) (by decide) (by decide) (by decide)⟩, if_pos (c := (oneS 1 p1 4611686018427387904).k = (oneS 1 p2 1).k) rfl, if_pos (by decide)]
theorem g5 : mrg (oneS 2 p1 5) (oneS 2 p2 3) = (m5, 0) := by
  rw [mrg_ok (x := oneS 2 p1 5) (y := oneS 2 p2 3) (one_may (by decide) (by decide) (by decide) (by decide)) (one_may (by decide) (by decide) (by decide) (by decide)) rfl (by decide)]
  have : zipS (oneS 2 p1 5) (oneS 2 p2 3) = ⟨2, 8, 0, [(p1, 5, 0), (p2, 3, 0)]⟩ := by
    unfold zipS oneS; simp only [zipL, p12, if_true, joinC]; rfl
  have e : cutS ⟨2, 8, 0, [(p1, 5, 0), (p2, 3, 0)]⟩ = m5 := by kernel_rfl
  rw [this, e]
theorem m5_may : May m5 := by have := (mrg_may (x := oneS 2 p1 5) (y := oneS 2 p2 3) (by rw [g5])).1; rw [g5] at this; exact this
theorem g6 : mrg m5 (oneS 2 p1 4) = (m6, 0) := by
  rw [mrg_ok (x := m5) (y := oneS 2 p1 4) m5_may (one_may (by decide) (by decide) (by decide) (by decide)) rfl (by decide)]
  have : zipS m5 (oneS 2 p1 4) = m6 := by
    unfold zipS m5 oneS
    simp only [zipL, p11, joinC, if_neg (show ¬ (0 : Int) = -1 by decide), if_neg (show ¬ (0 : Int) = 1 by decide)]; rfl
  have e : cutS m6 = m6 := by kernel_rfl
  rw [this, e]
theorem g7 : foldS [oneS 2 p1 5, oneS 2 p2 3, oneS 2 p1 4] = (m6, 0) := by
  rw [foldS, if_neg]
  · rw [foldM, if_pos (by rw [g5]), g5, foldM, if_pos (by rw [g6]), g6]; rfl
  · intro h
    obtain ⟨x, hx, hn⟩ := List.any_eq_true.1 h
    refine notMay_true.1 hn ?_
    simp only [List.mem_cons, List.not_mem_nil, or_false] at hx
    rcases hx with rfl | rfl | rfl <;> exact one_may (by decide) (by decide) (by decide) (by decide)
theorem one_wf {k w : Int} {p : Pfx} (h1 : 1 ≤ k) (h2 : k ≤ 200) (w1 : 1 ≤ w) (w2 : w ≤ 4611686018427387904) : Wf (oneS k p w) := (one_may h1 h2 w1 w2).wf
theorem aliveM_gives {W : World} : Gives Try.prog 38 #[] W fun v W' => v = .bool true ∧ Below W.heap.size W W' := F38_fn (_u := ()) (by
  unfold F38
  have hS := Ow.start NoS W
  refine hS.callSv (one_gives 1 1 5 rfl) fun a12 c12 W1 hS => hS.callSv (one_gives 1 2 3 rfl) fun a13 c13 W2 hS => ?_
  refine hS.callMrg (merge_gives (one_wf (by decide) (by decide) (by decide) (by decide)) (one_wf (by decide) (by decide) (by decide) (by decide)) (hS.rd 1 rfl) rfl (hS.rd 0 rfl) rfl) g1 fun a14 c14 W3 hS => AsT2.mk (AsI.mk ?_)
  have hS := hS.pick [0] (by decide) (rs' := [_]) rfl
  refine hS.new fun b1 W4 hS => hS.stw 0 rfl rfl rfl rfl fun W5 hS => ?_
  refine hS.callSv (one_gives 1 1 5 rfl) fun a18 c18 W6 hS => hS.callSv (one_gives 2 2 3 rfl) fun a19 c19 W7 hS => ?_
  refine hS.callMrg (merge_gives (one_wf (by decide) (by decide) (by decide) (by decide)) (one_wf (by decide) (by decide) (by decide) (by decide)) (hS.rd 1 rfl) rfl (hS.rd 0 rfl) rfl) g2 fun a20 c20 W8 hS => AsT2.mk (AsI.mk ?_)
  have hS := hS.pick [3, 4] (by decide) (rs' := [_, _]) rfl
  refine hS.new fun b3 W9 hS => hS.stw 0 rfl rfl rfl rfl fun W10 hS => ?_
  refine hS.callSv (one_gives 1 1 4611686018427387904 rfl) fun a24 c24 W11 hS => hS.callSv (one_gives 1 2 1 rfl) fun a25 c25 W12 hS => ?_
  refine hS.callMrg (merge_gives (one_wf (by decide) (by decide) (by decide) (by decide)) (one_wf (by decide) (by decide) (by decide) (by decide)) (hS.rd 1 rfl) rfl (hS.rd 0 rfl) rfl) g3 fun a26 c26 W13 hS => AsT2.mk (AsI.mk ?_)
  have hS := hS.pick [4, 5] (by decide) (rs' := [_, _]) rfl
  refine hS.new fun b5 W14 hS => hS.stw 0 rfl rfl rfl rfl fun W15 hS => ?_
  refine hS.callMrg (x := ⟨0, 0, 0, []⟩) (e := 1) (fold_gives (L := []) ⟨fun _ => rfl, fun q hq => (by cases hq)⟩ rfl (Nat.le_refl _) (by decide) (fun h hh => by cases hh)) rfl fun a30 c30 W16 hS => AsT2.mk (AsI.mk ?_)
  have hS := hS.pick [2, 3] (by decide) (rs' := [_, _]) rfl
  refine hS.new fun b7 W17 hS => hS.stw 0 rfl rfl rfl rfl fun W18 hS => ?_
  refine hS.callSv (one_gives 2 1 5 rfl) fun a34 c34 W19 hS => hS.callSv (one_gives 2 2 3 rfl) fun a35 c35 W20 hS => hS.callSv (one_gives 2 1 4 rfl) fun a36 c36 W21 hS => ?_
  refine hS.news (cs := [(oneS 2 p1 5, a34, c34), (oneS 2 p2 3, a35, c35), (oneS 2 p1 4, a36, c36)].flatMap encH) ⟨rfl, by decide, rfl, by decide, rfl, by decide, trivial⟩ (by kernel_rfl) fun b37 W22 hS => ?_
  refine hS.callMrg (fold_gives (L := [(oneS 2 p1 5, a34, c34), (oneS 2 p2 3, a35, c35), (oneS 2 p1 4, a36, c36)]) ⟨fun h => (by cases h), fun q hq => by
      cases hq
      exact row_of (hS.get 0 rfl) List.take_length⟩ rfl (Nat.le_refl _) (by simp) (fun h hh => by
      simp only [List.mem_cons, List.not_mem_nil, or_false] at hh
      rcases hh with rfl | rfl | rfl
      · exact ⟨hS.rd 3 rfl, one_wf (by decide) (by decide) (by decide) (by decide)⟩
      · exact ⟨hS.rd 2 rfl, one_wf (by decide) (by decide) (by decide) (by decide)⟩
      · exact ⟨hS.rd 1 rfl, one_wf (by decide) (by decide) (by decide) (by decide)⟩)) g7 fun a38 c38 W23 hS => AsT2.mk (AsI.mk ?_)
  have hS := hS.pick [0, 6, 7] (by decide) (rs' := [_, _, _]) rfl
  refine hS.new fun b9 W24 hS => hS.stw 0 rfl rfl rfl rfl fun W25 hS => ?_
  refine Join.use fun J hJ => If.pos rfl ?_
  refine hS.ldA 2 rfl (u := .int .u64 8) rfl (AsI.mk ?_)
  rw [hJ]; clear hJ; refine Join.use fun J hJ => If.pos rfl ?_
  refine hS.ldA 2 rfl (u := .int .u64 3) rfl (AsI.mk ?_)
  rw [hJ]; clear hJ; refine Join.use fun J hJ => If.pos rfl ?_
  refine hS.ldA 2 rfl (u := .slice a14 1 c14) rfl (AsL.mk rfl ?_)
  rw [hJ]; clear hJ; refine Join.use fun J hJ => If.pos rfl ?_
  refine hS.ldA 2 rfl (u := .slice a14 1 c14) rfl (AsL.mk rfl ?_)
  refine (hS.rd 3 rfl).get1 encN_len rfl (j := 0) rfl rfl (c := 12) (u := .int .u64 5) rfl (AsI.mk ?_)
  rw [hJ]; clear hJ; refine Join.use fun J hJ => If.pos rfl ?_
  refine hS.ldA 2 rfl (u := .slice a14 1 c14) rfl (AsL.mk rfl ?_)
  refine (hS.rd 3 rfl).get1 encN_len rfl (j := 0) rfl rfl (c := 13) (u := .int .u64 0) rfl (AsI.mk ?_)
  rw [hJ]; clear hJ; refine Join.use fun J hJ => If.pos rfl ?_
  rw [hJ]; clear hJ; refine Join.use fun J hJ => If.pos rfl ?_
  rw [hJ]; clear hJ; refine Join.use fun J hJ => If.pos rfl ?_
  rw [hJ]; clear hJ; refine Join.use fun J hJ => If.pos rfl ?_
  rw [hJ]; clear hJ; refine Join.use fun J hJ => If.pos rfl ?_
  refine hS.ldA 0 rfl (u := .int .u64 12) rfl (AsI.mk ?_)
  rw [hJ]; clear hJ; refine Join.use fun J hJ => If.pos rfl ?_
  refine hS.ldA 0 rfl (u := .slice a38 2 c38) rfl (AsL.mk rfl ?_)
  rw [hJ]; clear hJ; refine Join.use fun J hJ => If.pos rfl ?_
  refine hS.ldA 0 rfl (u := .slice a38 2 c38) rfl (AsL.mk rfl ?_)
  refine (hS.rd 1 rfl).get1 encN_len rfl (j := 0) rfl rfl (c := 12) (u := .int .u64 9) rfl (AsI.mk ?_)
  rw [hJ]
  exact ⟨rfl, hS.bel⟩)
end Go.Proofs.Ytcagnabglppenaa.Me
