/- melt: the laws MeltEven and MeltTwo. -/
import Derived.Test.YtcagnabglppenaaMf
namespace Go.Proofs.Ytcagnabglppenaa.Me
open Go Go.RowKit Go.Vc Go.Proofs.Ytcagnabglppenaa.Fs Go.Proofs.Ytcagnabglppenaa.Px Go.Proofs.Ytcagnabglppenaa.Hq Go.Proofs.Ytcagnabglppenaa.Sv

theorem mrg_len (x y : Sv) : (mrg x y).1.l.length ≤ 200 := by
  by_cases h : (mrg x y).2 = 0
  · have hM := (mrg_may h).1
    have := hM.len; have := hM.k2; omega
  · rw [mrg_not h]; simp
theorem May.l200 {x : Sv} (h : May x) : x.l.length ≤ 200 := by have := h.len; have := h.k2; omega
/-- A summary in memory. -/
def _root_.Go.Vc.Res.sum (b : Nat) (S : Nat → Prop) (x : Sv) : Res := ⟨S, fun W => SumR W b S x, fun hf h k => k.fr hf h⟩
theorem May.bounds {x : Sv} (h : May x) (p : Pfx) : 0 ≤ lowS x p ∧ lowS x p ≤ highS x p ∧ highS x p ≤ x.n := by
  unfold lowS highS
  have := h.sln; have := h.s0
  cases hg : getC x.l p with
  | none => simp only; omega
  | some c =>
    have h1 := h.each c (getC_some hg).1
    have h2 := h.le (getC_some hg).1
    simp only; omega
theorem even_law {W : World} {x y : Sv} {a a' : Option Addr} {n c n' c' : Nat} (hwx : Wf x) (hwy : Wf y) (hx : RdL W 14 encN a x.l) (hn : n = x.l.length) (hy : RdL W 14 encN a' y.l) (hn' : n' = y.l.length) :
    Gives Try.prog 9 #[.agg (hdS x a n c).toArray, .agg (hdS y a' n' c').toArray] W fun v W' => v = .bool true ∧ Below W.heap.size W W' := F9_fn (by
  unfold F9
  subst hn hn'
  have hS := Ow.start NoS W
  refine hS.new fun b2 W1 hS => hS.new fun b3 W2 hS => ?_
  refine hS.ldw 1 rfl rfl (hS.ldw 0 rfl rfl ?_)
  refine hS.callMrg (merge_gives hwx hwy (hx.bel hS.bel) rfl (hy.bel hS.bel) rfl) (x := (mrg x y).1) (e := (mrg x y).2) rfl fun a14 c14 W3 hS => AsT2.mk (AsI.mk ?_)
  refine hS.new fun b5 W4 hS => hS.stw 0 rfl rfl rfl rfl fun W5 hS => ?_
  refine hS.ldw 2 rfl rfl (hS.ldw 3 rfl rfl ?_)
  refine hS.callMrg (merge_gives hwy hwx (hy.bel hS.bel) rfl (hx.bel hS.bel) rfl) (x := (mrg x y).1) (e := (mrg x y).2) (mrg_comm y x) fun a20 c20 W6 hS => AsT2.mk (AsI.mk ?_)
  refine hS.new fun b7 W7 hS => hS.stw 0 rfl rfl rfl rfl fun W8 hS => ?_
  have hlz := mrg_len x y
  have hwz : ∀ c ∈ (mrg x y).1.l, WfN c := mrg_wf.l
  refine Join.use fun J hJ => If.bne (fun h => absurd rfl h) fun _ => ?_
  refine hS.ldw 2 rfl rfl (hS.ldw 0 rfl rfl ?_)
  refine hS.call (same_gives (x := (mrg x y).1) (y := (mrg x y).1) hwz hwz (hS.rd 3 rfl) rfl (hS.rd 1 rfl) rfl (by omega)) ?_
  rintro _ W9 ⟨r, rfl, hr⟩ hS
  obtain rfl : r = true := hr.2 rfl
  refine AsB.mk ?_
  rw [hJ]; clear hJ
  refine If.neg rfl (Join.use fun J1 hJ1 => ?_)
  have go1 : ∀ W', Ow NoS W W' [.cl b7 (hdS (mrg x y).1 a20 (mrg x y).1.l.length c20) 52, .sl 86 14 encN (.slice a20 (mrg x y).1.l.length c20) (mrg x y).1.l, .cl b5 (hdS (mrg x y).1 a14 (mrg x y).1.l.length c14) 52, .sl 86 14 encN (.slice a14 (mrg x y).1.l.length c14) (mrg x y).1.l, .cl b3 (hdS y a' y.l.length c') 52, .cl b2 (hdS x a x.l.length c) 52] → J1 false W' := by
    intro W' hS
    rw [hJ1]
    refine Join.use fun J2 hJ2 => ?_
    have go2 : ∀ W', Ow NoS W W' [.cl b7 (hdS (mrg x y).1 a20 (mrg x y).1.l.length c20) 52, .sl 86 14 encN (.slice a20 (mrg x y).1.l.length c20) (mrg x y).1.l, .cl b5 (hdS (mrg x y).1 a14 (mrg x y).1.l.length c14) 52, .sl 86 14 encN (.slice a14 (mrg x y).1.l.length c14) (mrg x y).1.l, .cl b3 (hdS y a' y.l.length c') 52, .cl b2 (hdS x a x.l.length c) 52] → J2 false W' := by
      intro W' hS
      rw [hJ2]
      refine If.neg rfl ?_
      refine hS.ldw 5 rfl rfl (hS.ld 5 rfl (u := .int .i64 x.k) rfl (AsI.mk ?_))
      refine ⟨⟨rfl, by decide, trivial⟩, ?_⟩
      have hwe : Wf ⟨x.k, 0, 0, []⟩ := ⟨hwx.k, by simp, by simp, fun c hc => by cases hc⟩
      refine hS.callMrg (merge_gives (y := ⟨x.k, 0, 0, []⟩) (a' := none) (n' := 0) (c' := 0) hwx hwe (hx.bel hS.bel) rfl ⟨fun _ => rfl, fun q hq => by cases hq⟩ rfl) (x := (mrg x ⟨x.k, 0, 0, []⟩).1) (e := (mrg x ⟨x.k, 0, 0, []⟩).2) rfl fun a63 c63 W12 hS => AsT2.mk (AsI.mk ?_)
      refine hS.new fun b9 W13 hS => hS.stw 0 rfl rfl rfl rfl fun W14 hS => ?_
      refine hS.ldw 7 rfl rfl ?_
      refine hS.call (right_gives hwx (hx.bel hS.bel) rfl) ?_
      rintro _ W15 ⟨r, rfl, hr⟩ hS
      refine AsB.mk ?_
      cases r with
      | false =>
        have hnm : ¬ May x := fun h => by have := hr.2 h; cases this
        rw [mrg_bad hnm, mrg_bad hnm]
        refine If.pos rfl ?_
        refine hS.callv aliveM_gives fun W16 hS => AsB.mk (Join.use fun J3 hJ3 => If.pos rfl ?_)
        rw [hJ3]
        refine Join.use fun J4 hJ4 => If.pos rfl ?_
        rw [hJ4]
        exact ⟨rfl, hS.bel⟩
      | true =>
        have hM : May x := hr.1 rfl
        have he := mrg_empty hM
        refine If.neg rfl ?_
        refine hS.callv aliveM_gives fun W16 hS => AsB.mk (Join.use fun J3 hJ3 => If.pos rfl ?_)
        rw [hJ3]
        refine Join.use fun J4 hJ4 => If.pos (by rw [he]; rfl) ?_
        refine hS.ldw 0 rfl rfl (hS.ldw 7 rfl rfl ?_)
        rw [he] at hS
        have hl := May.l200 hM
        rw [he]
        refine hS.call (same_gives (x := x) (y := x) hwx.l hwx.l (hS.rd 1 rfl) rfl (hx.bel hS.bel) rfl (by omega)) ?_
        rintro _ W17 ⟨r, rfl, hr⟩ hS
        obtain rfl : r = true := hr.2 rfl
        refine AsB.mk ?_
        rw [hJ4]
        exact ⟨rfl, hS.bel⟩
    refine If.neg rfl (Join.use fun J7 hJ7 => ?_)
    refine If.bne (fun he => ?_) fun he => ?_
    · refine hS.ldA 2 rfl (u := .int .u64 (mrg x y).1.n) rfl (AsI.mk ?_)
      rw [hJ7, mrg_not he]
      exact go2 W' hS
    · rw [hJ7]; exact go2 W' hS
  refine If.beq (fun he => ?_) fun he => ?_
  · obtain ⟨hM, hk, hN⟩ := mrg_may he
    obtain ⟨hX, hY, _, ho⟩ := mrg_zero he
    have n0 := hX.n0; have m0 := hY.n0
    refine hS.ldw 2 rfl rfl ?_
    refine hS.call (right_gives mrg_wf (hS.rd 3 rfl) rfl) ?_
    rintro _ W10 ⟨r, rfl, hr⟩ hS
    obtain rfl : r = true := hr.2 hM
    refine AsB.mk (Join.use fun J8 hJ8 => If.neg rfl ?_)
    refine hS.ldA 2 rfl (u := .int .u64 (mrg x y).1.n) rfl (AsI.mk ?_)
    refine hS.ldA 5 rfl (u := .int .u64 x.n) rfl (AsI.mk ?_)
    refine hS.ldA 4 rfl (u := .int .u64 y.n) rfl (AsI.mk ?_)
    rw [wrap_u64 (x := x.n + y.n) (by omega) (by omega), hJ8]
    have : ((mrg x y).1.n != x.n + y.n) = false := by rw [hN]; simp
    rw [this]
    exact go1 W10 hS
  · exact go1 W9 hS)

theorem two_law {W : World} {x y : Sv} {a a' : Option Addr} {n c n' c' : Nat} (hwx : Wf x) (hwy : Wf y) (hx : RdL W 14 encN a x.l) (hn : n = x.l.length) (hy : RdL W 14 encN a' y.l) (hn' : n' = y.l.length) (p : Pfx) :
    Gives Try.prog 10 #[.agg (hdS x a n c).toArray, .agg (hdS y a' n' c').toArray, kv p] W fun v W' => v = .bool true ∧ Below W.heap.size W W' := F10_fn (by
  unfold F10
  subst hn hn'
  have hS := Ow.start NoS W
  refine hS.new fun b3 W1 hS => hS.new fun b4 W2 hS => hS.new fun b5 W3 hS => ?_
  refine hS.ldw 2 rfl rfl (hS.ldw 1 rfl rfl ?_)
  refine hS.callMrg (merge_gives hwx hwy (hx.bel hS.bel) rfl (hy.bel hS.bel) rfl) (x := (mrg x y).1) (e := (mrg x y).2) rfl fun a20 c20 W4 hS => AsT2.mk (AsI.mk ?_)
  refine hS.new fun b7 W5 hS => hS.stw 0 rfl rfl rfl rfl fun W6 hS => ?_
  by_cases he : (mrg x y).2 = 0
  · obtain ⟨hM, hk, hN⟩ := mrg_may he
    obtain ⟨hX, hY, _, ho⟩ := mrg_zero he
    have n0 := hX.n0; have m0 := hY.n0; have hMn := hM.n1
    refine hS.ldw 4 rfl rfl ?_
    refine CallK.mk (of_gives hwx (hx.bel hS.bel) rfl) ?_
    rintro _ W7 ⟨h | ⟨_, bs, rfl, hRs⟩, hb7⟩
    · exact absurd hX h.1
    have hS := hS.push hb7 (.sum bs (Hq.grow (fun _ => False) W6 W7) x) hRs fun b hb => hb.resolve_left id
    refine AsT2.mk (AsP.mk (AsI.mk ?_))
    refine hS.ldw 4 rfl rfl ?_
    refine CallK.mk (of_gives hwy (hy.bel hS.bel) rfl) ?_
    rintro _ W8 ⟨h | ⟨_, bt, rfl, hRt⟩, hb8⟩
    · exact absurd hY h.1
    have hS := hS.push hb8 (.sum bt (Hq.grow (fun _ => False) W7 W8) y) hRt fun b hb => hb.resolve_left id
    refine AsT2.mk (AsP.mk (AsI.mk ?_))
    refine hS.ldw 2 rfl rfl ?_
    refine CallK.mk (of_gives mrg_wf (hS.rd 3 rfl) rfl) ?_
    rintro _ W9 ⟨h | ⟨_, bu, rfl, hRu⟩, hb9⟩
    · exact absurd hM h.1
    have hS := hS.push hb9 (.sum bu (Hq.grow (fun _ => False) W8 W9) (mrg x y).1) hRu fun b hb => hb.resolve_left id
    refine AsT2.mk (AsP.mk (AsI.mk ?_))
    refine If.bne (fun h => absurd he h) fun _ => ?_
    refine Join.use fun J hJ => If.neg rfl ?_
    rw [hJ]; clear hJ
    refine Join.use fun J1 hJ1 => If.neg rfl ?_
    rw [hJ1]; clear hJ1
    refine If.neg rfl (hS.any fun W13 hS => ?_)
    refine hS.ldw 5 rfl rfl (hS.ldw 5 rfl rfl (hS.ldw 5 rfl rfl (hS.ldw 5 rfl rfl ?_)))
    refine hS.callv (high_gives (hS.get 2 rfl) p) fun W14 hS => AsI.mk ?_
    refine hS.stn 5 rfl rfl (hS.stn 5 rfl rfl (hS.stn 5 rfl rfl ?_))
    refine hS.callv (high_gives (hS.get 1 rfl) p) fun W15 hS => AsI.mk ?_
    refine hS.stn 5 rfl rfl (hS.stn 5 rfl rfl ?_)
    refine hS.callv (low_gives (hS.get 2 rfl) hX p) fun W16 hS => AsI.mk ?_
    refine hS.stn 5 rfl rfl ?_
    refine hS.callv (low_gives (hS.get 1 rfl) hY p) fun W17 hS => AsI.mk ?_
    refine hS.ldw 5 rfl rfl ?_
    refine hS.callv (low_gives (hS.get 0 rfl) hM p) fun W18 hS => AsI.mk ?_
    have hx1 := May.bounds hX p; have hy1 := May.bounds hY p
    have hw := hX.n1; have hw' := hY.n1
    rw [wrap_u64 (x := highS x p + highS y p) (by omega) (by omega), wrap_u64 (x := lowS x p + lowS y p) (by omega) (by omega)]
    rcases mrg_two he p with ⟨l0, h0, hl, hh⟩ | ⟨l0, hl, hh, hs⟩
    · refine If.beq (fun _ => ?_) fun h => absurd l0 h
      refine hS.any fun W19 hS => hS.callv aliveM_gives fun W20 hS => AsB.mk (Join.use fun J2 hJ2 => If.pos rfl ?_)
      refine hS.ldw 5 rfl rfl (hS.ldA 3 rfl (u := .int .u64 (mrg x y).1.sl) rfl (AsI.mk ?_))
      refine hS.callv (high_gives (hS.get 0 rfl) p) fun W24 hS => AsI.mk ?_
      refine hS.stlA 3 rfl rfl ?_
      rw [hJ2]; clear hJ2
      refine Join.use fun J3 hJ3 => If.pos (by rw [h0]; simp) ?_
      refine hS.ldA 3 rfl (u := .int .u64 (mrg x y).1.sl) rfl (AsI.mk ?_)
      rw [hJ3]; clear hJ3
      refine Join.use fun J4 hJ4 => If.pos (decide_eq_true hl) ?_
      refine hS.ldA 3 rfl (u := .int .u64 (mrg x y).1.sl) rfl (AsI.mk ?_)
      rw [hJ4]
      exact ⟨by rw [decide_eq_true hh], hS.bel⟩
    · refine If.beq (fun h => absurd h (by omega)) fun _ => ?_
      refine hS.callv aliveM_gives fun W20 hS => AsB.mk (Join.use fun J2 hJ2 => If.pos rfl ?_)
      refine hS.ldw 5 rfl rfl ?_
      refine hS.callv (low_gives (hS.get 0 rfl) hM p) fun W24 hS => AsI.mk ?_
      rw [hJ2]; clear hJ2
      refine Join.use fun J3 hJ3 => If.pos (by rw [hl]; simp) ?_
      refine hS.ldw 5 rfl rfl ?_
      refine hS.callv (high_gives (hS.get 0 rfl) p) fun W25 hS => AsI.mk ?_
      rw [hJ3]; clear hJ3
      refine Join.use fun J4 hJ4 => If.pos (by rw [hh]; simp) ?_
      refine hS.ldA 3 rfl (u := .int .u64 (mrg x y).1.sl) rfl (AsI.mk ?_)
      rw [hJ4]
      exact ⟨by rw [decide_eq_true hs], hS.bel⟩
  · -- no merged summary: whatever Of says of the three
    have oks : ∀ {z : Sv} {r : Option Addr} {m d : Nat} {K : Value → World → Prop} {W' : World} {rs : List Res}, Wf z → Ow NoS W W' rs → RdL W' 14 encN r z.l → m = z.l.length →
        (∀ p e W'', Ow NoS W W'' rs → K (.tuple #[.pointer p, .int .i64 e]) W'') → CallK Try.prog 43 #[.agg (hdS z r m d).toArray] W' (fun _ _ => False) K := by
      intro z r m d K W' rs hw hS hr hm hk
      refine CallK.mk (of_gives hw hr hm) ?_
      rintro _ W2 ⟨⟨_, rfl⟩ | ⟨_, b, rfl, _⟩, hb⟩
      · exact hk _ _ W2 (hS.more hb)
      · exact hk _ _ W2 (hS.more hb)
    refine hS.ldw 4 rfl rfl (oks hwx hS (hx.bel hS.bel) rfl fun q1 e1 W7 hS => AsT2.mk (AsP.mk (AsI.mk ?_)))
    refine hS.ldw 3 rfl rfl (oks hwy hS (hy.bel hS.bel) rfl fun q2 e2 W8 hS => AsT2.mk (AsP.mk (AsI.mk ?_)))
    refine hS.ldw 0 rfl rfl (oks mrg_wf hS (hS.rd 1 rfl) rfl fun q3 e3 W9 hS => AsT2.mk (AsP.mk (AsI.mk ?_)))
    refine If.bne (fun _ => ?_) fun h => absurd h he
    refine hS.callv aliveM_gives fun W10 hS => AsB.mk ⟨rfl, hS.bel⟩)
end Go.Proofs.Ytcagnabglppenaa.Me
