/- The cache: Find, which turns nothing; the law's comparison with the reference's list. -/
import Derived.Test.YtdfaocbpghjboaaCp
namespace Go.Proofs.Ytdfaocbpghjboaa.Ch
open Go Go.RowKit Go.Vc Go.Proofs.Ytdfaocbpghjboaa.Fs

theorem mo_look {o : Option Nat} {kv : List (Pl × Tm)} {W : World} {k : Value → Prop} {p : Pl} (h : (Res.mo o kv).ok W) (hk : k (.tuple #[enV ((kget kv p).getD zTm), .bool (kget kv p).isSome])) :
    RunR Try.prog (Instr.lookup 59 (.map o) (enK p) true) W k := by
  cases o with
  | none =>
    have e : kv = [] := h
    subst e
    exact RunR.mk (fun W' _ => nil_lookup keyP t59 z29 p W') hk
  | some m =>
    refine RunR.mk (fun _ hb => (Res.bel (r := .mq m enK enV kv) h hb : MapQ _ m enK enV kv).lookup keyP t59 z29 p) ?_
    cases e : kget kv p <;> (rw [e] at hk; exact hk)
/-- What Find yields, in blocks from lo to hi. -/
def FindV (x : Option Tp) : Vl := fun lo hi v w => ∃ u : Tm, v = .tuple #[.agg (encT u).toArray, .bool x.isSome] ∧ u.1 = x.getD zTm.1 ∧ SlR w 54 3 encS (.slice u.2.1 u.1.2.2.length u.2.2) u.1.2.2 ∧ ∀ g, (Value.slice u.2.1 u.1.2.2.length u.2.2).ownBlock = some g → lo ≤ g ∧ g < hi
theorem findV_mono (x : Option Tp) : MonoL (FindV x) := by
  intro lo hi v w w' hb h
  obtain ⟨u, h1, h2, h3, h4⟩ := h
  exact ⟨u, h1, h2, h3.bel hb, h4⟩
theorem findB_gives {q : Nat} {o : Option Nat} {N : Nat → Prop} {kv : List (Pl × Tm)} {W : World} (p : Pl) (hq : W.heap[q]? = some (.cells #[.map o] 61 (0, 0))) (hm : (Res.mo o kv).ok W) (hn : (Res.ne N (kv.map (·.2))).ok W) (hG : GoodE (er kv)) :
    Gives Try.prog 16 #[pt q, .int .u32 p.1.1, .int .i64 p.1.2] W fun v W' => Below W.heap.size W W' ∧ FindV (kget (er kv) p) W.heap.size W'.heap.size v W' := F16_fn (by
  unfold F16
  have hS := Ow.start NoS W
  refine hS.new fun q6 W1 hS => nil_ptr_eql t23 (AsB.mk (If.neg rfl (NilP.mk (Ld1.mk (belowAt hS.bel hq) rfl (BldC.mk (cs := enP p) ⟨rfl, by decide, rfl, by decide, trivial⟩ (by kernel_rfl) (mo_look (Res.bel hm hS.bel) (AsT2.mk (AsB.mk ?_))))))))
  refine hS.new fun q8 W2 hS => hS.stw 0 rfl (cs := encT ((kget kv p).getD zTm)) rfl rfl rfl fun W3 hS => If.split (fun h => ?_) fun h => ?_
  · refine BldC.mk (cs := encT zTm) trivial rfl (hS.stw 1 rfl (cs := encT zTm) rfl rfl rfl fun W4 hS => hS.ldw 1 rfl rfl ?_)
    have hs := not_true_of h
    have hs' : (kget (er kv) p) = none := by
      have := er_some kv p; rw [hs] at this
      cases e : kget (er kv) p with
      | none => rfl
      | some x => rw [e] at this; cases this
    exact ⟨hS.bel, zTm, by rw [hs']; rfl, by rw [hs']; rfl, SlR.nil _ _, fun g hg => by cases hg⟩
  · have hs := not_false_of h
    cases hg : kget kv p with
    | none => rw [hg] at hs; cases hs
    | some t =>
      have hmem := kget_some hg
      have hR : rightT t.1 = true := (hG.at hmem).1
      have hn := (Res.bel hn hS.bel) t (List.mem_map.2 ⟨_, hmem, rfl⟩)
      rw [hg] at hS
      refine hS.ldw 0 rfl (c := encT t) rfl (hS.callOwn hn.1 (by have := (rightT_iff.1 hR).2.1; omega) fun b W4 hS => ?_)
      refine hS.stw 2 rfl (cs := encT (t.1, some ⟨b, 0, none⟩, t.1.2.2.length)) rfl rfl rfl fun W5 hS => hS.ldw 2 rfl rfl ?_
      have hs' : (kget (er kv) p) = some t.1 := by rw [er_get, hg]; rfl
      refine ⟨hS.bel, (t.1, some ⟨b, 0, none⟩, t.1.2.2.length), by rw [hs']; rfl, by rw [hs']; rfl, hS.get 0 rfl, fun g hg => ?_⟩
      cases hg
      have := hS.lt 0 _ b rfl rfl
      exact ⟨this.2.resolve_left fun h => h, this.1⟩)
theorem lkF : lkOf Try.prog 41 = .tup 2 := by kernel_rfl
theorem ne_wf {e : Ek} (hG : GoodE e) {l : List Hd} (hI : IsL e l) {N : Nat → Prop} {W : World} (hn : (Res.ne N (l.map (·.2))).ok W) : ∀ h ∈ l, WfH W h := fun h hh => by
  obtain ⟨p, hp, _⟩ := hI.to h hh
  obtain ⟨h1, h2, _⟩ := hG.2.2 _ hp
  refine ⟨(hn h.2 (List.mem_map.2 ⟨h, hh, rfl⟩)).1, h2, ?_⟩
  have : h.2.1.2.2.length ≤ 64 := (rightT_iff.1 h1).2.1.2
  omega
theorem wfT_of {e : Ek} (hG : GoodE e) {p : Pl} {t : Tp} (h : kget e p = some t) : rightT t = true ∧ WfT t ∧ p.1.2 = t.1 := hG.2.2 _ (kget_some h)
/-- The law's Same: the list is what the cache has. -/
theorem lsame_gives {W0 W : World} {q : Nat} {o : Option Nat} {N : Nat → Prop} {kv : List (Pl × Tm)} {l : List Hd} {a : Option Addr} {c : Nat} (hS : Ow NoS W0 W (caL q o N kv ++ [.sl 49 4 encH (.slice a l.length c) l])) (hG : GoodE (er kv)) (hI : IsL (er kv) l) (hw : ∀ h ∈ l, WfH W0 h) :
    Gives Try.prog 20 #[pt q, .slice a l.length c] W fun v W' => v = .bool true ∧ Below W0.heap.size W0 W' := F20_fn (by
  unfold F20
  have hlen := hI.len hG
  have h64 := hG.2.1
  refine nil_ptr_eql t23 (AsB.mk (Join.use fun J hJ => If.neg rfl ?_))
  refine hS.clist hG fun a12 c12 l' N' W1 hl hS => AsL.mk rfl ?_
  have hI' := hl.isL hG
  refine hS.callv (sameAll_gives (hS.rd 0 rfl) rfl (hS.rd 5 rfl) rfl (ne_wf hG hI' (hS.get 1 rfl)) (fun h hh => (hw h hh).bel hS.bel) (by have := hI'.len hG; omega)) fun W2 hS => AsB.mk ?_
  rw [decide_eq_true (hI'.eq hI), hJ]; dsimp only
  have hS := hS.pick (rs' := [.cl q [.map o] 61, .mo o kv, .ne N (kv.map (·.2)), .sl 49 4 encH (.slice a l.length c) l]) [2, 3, 4, 5] (by decide) rfl
  refine If.neg rfl (Lp.of (fun j : Nat => [.bool false, .int .i64 (j : Int)]) (fun j W' => j ≤ l.length ∧ Ow NoS W0 W' [.cl q [.map o] 61, .mo o kv, .ne N (kv.map (·.2)), .sl 49 4 encH (.slice a l.length c) l]) (fun j => l.length - j) 0 rfl ⟨Nat.zero_le _, hS⟩ ?_)
  rintro j W3 k ⟨hj, hS⟩ hk
  refine AsB.mk (AsI.mk (If.dec (fun hlt => ?_) fun hge => ⟨rfl, hS.bel⟩))
  have hlt' : j < l.length := by have : (j : Int) < (l.length : Int) := hlt; omega
  have ra := List.getElem?_eq_getElem hlt'
  generalize l[j] = x at ra
  have hxl := List.mem_of_getElem? ra
  obtain ⟨p, hp, e1⟩ := hI.to x hxl
  have e2 : p.1.2 = x.2.1.1 := hG.id hp
  have hg := hG.get hp
  have hla := hS.rd 3 rfl
  refine hla.get0 encH_len rfl rfl ra (u := .int .u32 x.1) rfl (AsI.mk (hla.get1 encH_len rfl rfl ra (c := 1) (u := .int .i64 x.2.1.1) rfl (AsI.mk ?_)))
  rw [← e1, ← e2]
  refine ⟨FindV (kget (er kv) p), findV_mono _, fun lo hi v w h => ?_, fun W' hb => ?_, ?_⟩
  · unfold Shape; rw [lkF]
    obtain ⟨u, e, _⟩ := h
    exact ⟨_, e, rfl⟩
  · have g := findB_gives (W := W') (N := N) p (belowAt hb (hS.get 0 rfl)) (Res.bel (hS.get 1 rfl) hb) (Res.bel (hS.get 2 rfl) hb) hG
    exact g
  intro W4 hb4 lo hi v hF hV
  obtain ⟨u, rfl, hu, hsu, hown⟩ := hV
  rw [hg] at hu ⊢
  refine AsT2.mk (AsB.mk ?_)
  intro lo6 hi6 v6 hF6 hN6
  obtain ⟨rfl, hlt6, hc6⟩ := hN6
  refine AsA.mk ?_
  have hS1 := hS.push hb4 (.sl 54 3 encS (.slice u.2.1 u.1.2.2.length u.2.2) u.1.2.2) hsu fun b hb => ⟨Nat.le_trans hF.1 (hown b hb).1, Nat.lt_of_lt_of_le (hown b hb).2 hF.2.2.1⟩
  have hz0 := hS.size
  have hS := hS1.take (.cl lo6 zT 29) hc6 (fun b hb => by cases hb; exact ⟨Nat.lt_of_lt_of_le hlt6 hF6.2.2.1, .inr (Nat.le_trans hz0 hF6.1)⟩) (fun i r' b hir hbb hb => by
    cases hb
    cases i with
    | zero =>
      simp at hir; subst hir
      have h1 := hown _ hbb
      have h2 := hF6.2.2.2 (lo, hi) (List.mem_singleton.2 rfl)
      dsimp only at h2
      omega
    | succ i =>
      have h3 := (hS.lt i r' _ (by simpa using hir) hbb).1
      have := hF6.1
      omega)
  refine hS.stw 0 rfl (cs := encT u) rfl rfl rfl fun W5 hS => Join.use fun J1 hJ1 => If.neg rfl (hS.ldw 0 rfl rfl ((hS.rd 5 rfl).getN encH_len rfl rfl ra (cs := encT x.2) rfl rfl (hS.any fun W6 hS => ?_)))
  have hwx := (hw x hxl).bel hS.bel
  have hu' : u.1 = x.2.1 := hu
  refine hS.callv (same_gives (t := u) (hS.rd 1 rfl) hwx.1 (by rw [hu']; exact hwx.2.1) hwx.2.1 (by rw [hu']; exact hwx.2.2)) fun W7 hS => AsB.mk ?_
  rw [decide_eq_true hu', hJ1]; dsimp only
  refine If.neg rfl ?_
  rw [nsucc (by omega)]
  exact hk (j + 1) W7 ⟨hlt', hS.pick [2, 3, 4, 5] (by decide) rfl⟩ (by omega))
end Go.Proofs.Ytdfaocbpghjboaa.Ch
