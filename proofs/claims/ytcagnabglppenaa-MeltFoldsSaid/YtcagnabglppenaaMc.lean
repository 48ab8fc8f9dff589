/- melt: cut, Merge. -/
import Derived.Test.YtcagnabglppenaaMb
namespace Go.Proofs.Ytcagnabglppenaa.Me
open Go Go.RowKit Go.Vc Go.Proofs.Ytcagnabglppenaa.Fs Go.Proofs.Ytcagnabglppenaa.Px Go.Proofs.Ytcagnabglppenaa.Hq Go.Proofs.Ytcagnabglppenaa.Sv

theorem own_len (a : Option Addr) (n n' c c' : Nat) : (Value.slice a n c).ownBlock = (Value.slice a n' c').ownBlock := by cases a <;> rfl
theorem low_gives' {W : World} {x : Sv} {a : Option Addr} {n c b1 : Nat} (h : W.heap[b1]? = some (.cells (hdS x a n c).toArray 52 (0, 0))) (d : Cnt) :
    Gives Try.prog 100 #[.agg (encN d).toArray, .pointer (some ⟨b1, 0, none⟩)] W fun v W' => v = .bool (decide (d.2.1 ≤ x.sl)) ∧ Below W.heap.size W W' := F100_fn (by
  unfold F100
  have hS := Ow.start NoS W
  refine hS.new fun b2 W1 hS => ?_
  refine hS.ldA 0 rfl (u := .int .u64 d.2.1) rfl (AsI.mk ?_)
  exact Ld1.ad (belowAt hS.bel h) (u := .int .u64 x.sl) rfl (AsI.mk ⟨rfl, hS.bel⟩))
theorem cC : Ok Try.prog 100 := ⟨by kernel_rfl⟩
theorem fnC {l : List Cnt} {x : Sv} {a : Option Addr} {n c b1 : Nat} : Fn1 Try.prog (.func (.func 100) #[] #[.pointer (some ⟨b1, 0, none⟩)]) (.cl b1 (hdS x a n c) 52) encN (fun d => decide (d.2.1 ≤ x.sl)) l := fun W d kp K _ hr hk =>
  YieldK.func cC (by simpa using low_gives' hr d) fun v W' h => by rw [h.1]; exact hk W' h.2
theorem cut_gives {W : World} {x : Sv} {a : Option Addr} {n c : Nat} (hs : SlR W 86 14 encN (.slice a n c) x.l) (hl : x.l.length < 1000000) (hk : 0 ≤ x.k) :
    Gives Try.prog 65 #[.agg (hdS x a n c).toArray] W fun v W' => ∃ m, v = .agg (hdS (cutS x) a m c).toArray ∧ SlR W' 86 14 encN (.slice a m c) (cutS x).l ∧ Fr (fun q => (Value.slice a n c).ownBlock = some q) W W' := F65_fn (by
  unfold F65
  have hn := hs.len
  subst hn
  have hS := (Ow.start (fun q => (Value.slice a x.l.length c).ownBlock = some q) W).take (.sl 86 14 encN (.slice a x.l.length c) x.l) hs (fun b hb => ⟨hs.lt hb, .inl hb⟩) (fun i r' b h => by simp at h)
  refine hS.new fun b1 W1 hS => hS.new fun b2 W2 hS => ?_
  refine hS.ldA 1 rfl (u := .slice a x.l.length c) rfl (AsL.mk rfl ?_)
  refine hS.ld 1 rfl (u := .int .i64 x.k) rfl (AsI.mk ?_)
  refine If.dec (fun hle => ?_) fun hgt => ?_
  · refine hS.ldw 1 rfl rfl (hS.stw 0 rfl rfl rfl rfl fun W3 hS => hS.ldw 0 rfl rfl ?_)
    have : cutS x = x := by unfold cutS; rw [if_pos hle]
    rw [this]
    exact ⟨_, rfl, hS.get 2 rfl, hS.fr⟩
  · have hgt' : ¬ (x.l.length : Int) ≤ x.k := hgt
    refine hS.ldA 1 rfl (u := .slice a x.l.length c) rfl (AsL.mk rfl ?_)
    refine hS.calls (clone_gives (hS.rd 2 rfl) rfl (by omega)) fun a14 c14 W4 hS => AsL.mk rfl ?_
    refine CallK.mk (sortG_gives (hS.get 0 rfl) (by omega) rfl) ?_
    rintro _ W5 ⟨rfl, d, hp, hd, hsd, hf⟩
    have hS := hS.upd (i := 0) rfl hf (.sl 86 14 encN (.slice a14 x.l.length c14) d) hsd fun b hb => .inl hb
    have hdl := hp.length_eq
    refine hS.ld 2 rfl (u := .int .i64 x.k) rfl (AsI.mk ?_)
    have hkl : x.k.toNat < d.length := by omega
    refine (hS.rd 0 rfl).get1 encN_len hdl.symm (j := x.k.toNat) (by omega) (List.getElem?_eq_getElem hkl) (c := 12) (u := .int .u64 d[x.k.toNat].2.1) rfl (AsI.mk ?_)
    have hkth := (kth_sorted hp hd hkl).eq
    generalize d[x.k.toNat].2.1 = s at hkth
    refine hS.st1 2 rfl (hdS { x with sl := s } a x.l.length c) rfl rfl rfl (show 2 < 4 by decide) fun W6 hS => ?_
    refine hS.ldA 2 rfl (u := .slice a x.l.length c) rfl (AsL.mk rfl ?_)
    refine CallK.mk (delete_gives (hS.get 3 rfl) (by omega) (hS.get 2 rfl) (fun b hb he => by
      have h2 := hS.dis 3 2 (.sl 86 14 encN (.slice a x.l.length c) x.l) (.cl b1 (hdS { x with sl := s } a x.l.length c) 52) b rfl rfl he hb
      omega) fnC) ?_
    rintro _ W7 ⟨⟨m, rfl, hsm⟩, hf⟩
    have hS := hS.upd (i := 3) rfl hf (.sl 86 14 encN (.slice a m c) (x.l.filter fun d => !decide (d.2.1 ≤ s))) hsm fun b hb => .inl ((own_len _ _ _ _ _).trans hb)
    have hm := hsm.len
    have hc : cutS x = { x with sl := s, l := x.l.filter fun d => !decide (d.2.1 ≤ s) } := by unfold cutS; rw [if_neg hgt', hkth]
    refine AsL.mk rfl ?_
    refine hS.st1 2 rfl (hdS (cutS x) a m c) (by rw [hc]; rfl) rfl rfl (show 3 < 4 by decide) fun W8 hS => ?_
    refine hS.ldw 2 rfl rfl (hS.stw 1 rfl rfl rfl rfl fun W9 hS => hS.ldw 1 rfl rfl ?_)
    refine ⟨m, rfl, ?_, hS.fr⟩
    rw [hc]
    exact hS.get 3 rfl)

open Classical in
/-- What two summaries are together. -/
noncomputable def mrg (x y : Sv) : Sv × Int :=
  if May x ∧ May y then
    if x.k = y.k then
      if x.n > 4611686018427387904 - y.n then (⟨0, 0, 0, []⟩, 13)
      else (cutS ⟨x.k, x.n + y.n, x.sl + y.sl, zipL x.sl y.sl x.l y.l⟩, 0)
    else (⟨0, 0, 0, []⟩, 14)
  else (⟨0, 0, 0, []⟩, 3)
theorem zip_len (sa sb : Int) : ∀ l m : List Cnt, (zipL sa sb l m).length ≤ l.length + m.length
  | [], [] => by simp [zipL]
  | a :: l, [] => by have := zip_len sa sb l []; simp [zipL] at this ⊢; omega
  | [], b :: m => by have := zip_len sa sb [] m; simp [zipL] at this ⊢; omega
  | a :: l, b :: m => by
    rw [zipL]
    split
    · have := zip_len sa sb l (b :: m); simp at this ⊢; omega
    · split
      · have := zip_len sa sb (a :: l) m; simp at this ⊢; omega
      · have := zip_len sa sb l m; simp at this ⊢; omega
termination_by l m => l.length + m.length
/-- The tuple of a summary, whose counts are a new slice, and a number. -/
def MrgV (W : World) (z : Sv × Int) (v : Value) (W' : World) : Prop := ∃ a c, v = .tuple #[.agg (hdS z.1 a z.1.l.length c).toArray, .int .i64 z.2] ∧ SlR W' 86 14 encN (.slice a z.1.l.length c) z.1.l ∧ ∀ g, (Value.slice a z.1.l.length c).ownBlock = some g → W.heap.size ≤ g
theorem merge_gives {W : World} {x y : Sv} {a a' : Option Addr} {n c n' c' : Nat} (hwx : Wf x) (hwy : Wf y) (hx : RdL W 14 encN a x.l) (hn : n = x.l.length) (hy : RdL W 14 encN a' y.l) (hn' : n' = y.l.length) :
    Gives Try.prog 36 #[.agg (hdS x a n c).toArray, .agg (hdS y a' n' c').toArray] W fun v W' => MrgV W (mrg x y) v W' ∧ Below W.heap.size W W' := F36_fn (by
  unfold F36
  subst hn hn'
  have hS := Ow.start NoS W
  refine hS.new fun b2 W1 hS => hS.new fun b3 W2 hS => hS.new fun b4 W3 hS => ?_
  have fin : ∀ (e : Int) (W4 : World), mrg x y = (⟨0, 0, 0, []⟩, e) → Ow NoS W W4 [.cl b4 [.int .i64 0, .int .u64 0, .int .u64 0, .slice none 0 0] 52, .cl b3 (hdS y a' y.l.length c') 52, .cl b2 (hdS x a x.l.length c) 52] →
      BldC [.int .i64 0, .int .u64 0, .int .u64 0, .slice none 0 0] [] fun cs15 => StV 4 W4 ⟨b4, 0, none⟩ (.agg cs15) fun W_6 => LdNC W_6 ⟨b4, 0, none⟩ 4 fun l4 =>
        (fun v W' => MrgV W (mrg x y) v W' ∧ Below W.heap.size W W') (.tuple #[.agg l4.toArray, .int .i64 e]) W_6 := by
    intro e W4 he hS
    rw [he]
    refine ⟨trivial, ?_⟩
    refine hS.stw 0 rfl (cs := [.int .i64 0, .int .u64 0, .int .u64 0, .slice none 0 0]) rfl rfl rfl fun W5 hS => hS.ldw 0 rfl rfl ?_
    exact ⟨⟨none, 0, rfl, SlR.nil _ _, fun g hg => by cases hg⟩, hS.bel⟩
  refine hS.ldw 2 rfl rfl ?_
  refine hS.call (right_gives hwx (hx.bel hS.bel) rfl) ?_
  rintro _ W4 ⟨r, rfl, hr⟩ hS
  refine AsB.mk (Join.use fun J hJ => ?_)
  have bad : ∀ W5, ¬ (May x ∧ May y) → Ow NoS W W5 [.cl b4 [.int .i64 0, .int .u64 0, .int .u64 0, .slice none 0 0] 52, .cl b3 (hdS y a' y.l.length c') 52, .cl b2 (hdS x a x.l.length c) 52] → J true W5 := fun W5 h hS => by
    rw [hJ]
    refine If.pos rfl (fin 3 W5 ?_ hS)
    unfold mrg; rw [if_neg h]
  have good : ∀ W5, (May x ∧ May y) → Ow NoS W W5 [.cl b4 [.int .i64 0, .int .u64 0, .int .u64 0, .slice none 0 0] 52, .cl b3 (hdS y a' y.l.length c') 52, .cl b2 (hdS x a x.l.length c) 52] → J false W5 := fun W5 h hS => by
    rw [hJ]
    obtain ⟨hX, hY⟩ := h
    have n0 := hX.n0; have n1 := hX.n1; have m0 := hY.n0; have m1 := hY.n1; have s0 := hX.s0; have sn := hX.sln; have u0 := hY.s0; have un := hY.sln
    have lx : x.l.length ≤ 200 := by have := hX.len; have := hX.k2; omega
    have ly : y.l.length ≤ 200 := by have := hY.len; have := hY.k2; omega
    refine If.neg rfl ?_
    refine hS.ld 2 rfl (u := .int .i64 x.k) rfl (AsI.mk ?_)
    refine hS.ld 1 rfl (u := .int .i64 y.k) rfl (AsI.mk ?_)
    refine If.bne (fun hk => fin 14 W5 (by unfold mrg; rw [if_pos ⟨hX, hY⟩, if_neg hk]) hS) fun hk => ?_
    refine hS.ldA 2 rfl (u := .int .u64 x.n) rfl (AsI.mk ?_)
    refine hS.ldA 1 rfl (u := .int .u64 y.n) rfl (AsI.mk ?_)
    rw [wrap_u64 (x := 4611686018427387904 - y.n) (by omega) (by omega)]
    refine If.dec (fun ho => fin 13 W5 (by unfold mrg; rw [if_pos ⟨hX, hY⟩, if_pos hk, if_pos ho]) hS) fun ho => ?_
    refine hS.ld 2 rfl (u := .int .i64 x.k) rfl (AsI.mk ?_)
    refine hS.ldA 2 rfl (u := .int .u64 x.n) rfl (AsI.mk ?_)
    refine hS.ldA 1 rfl (u := .int .u64 y.n) rfl (AsI.mk ?_)
    refine hS.ldA 2 rfl (u := .int .u64 x.sl) rfl (AsI.mk ?_)
    refine hS.ldA 1 rfl (u := .int .u64 y.sl) rfl (AsI.mk ?_)
    refine hS.ldw 2 rfl rfl ?_
    refine hS.any fun W6 hS => hS.ldw 1 rfl rfl ?_
    refine hS.calls (zip_gives (hx.bel hS.bel) rfl (hy.bel hS.bel) rfl hX hY) fun a45 c45 W7 hS => AsL.mk rfl ?_
    refine hS.stl 3 rfl rfl (hS.stlA 3 rfl rfl (hS.stlA 2 rfl rfl (hS.stlA 3 rfl rfl (hS.stlA 2 rfl rfl ?_))))
    rw [wrap_u64 (x := x.n + y.n) (by omega) (by omega), wrap_u64 (x := x.sl + y.sl) (by omega) (by omega)]
    refine ⟨⟨rfl, by decide, rfl, by decide, rfl, by decide, rfl, by decide, trivial⟩, ?_⟩
    have hzl := zip_len x.sl y.sl x.l y.l
    refine CallK.mk (cut_gives (x := ⟨x.k, x.n + y.n, x.sl + y.sl, zipL x.sl y.sl x.l y.l⟩) (a := a45) (n := (zipL x.sl y.sl x.l y.l).length) (c := c45) (hS.get 0 rfl) (by simp only; omega) (by have := hX.k1; simp only; omega)) ?_
    rintro _ W8 ⟨m, rfl, hsm, hf⟩
    have hS := hS.upd (i := 0) rfl hf (.sl 86 14 encN (.slice a45 m c45) (cutS ⟨x.k, x.n + y.n, x.sl + y.sl, zipL x.sl y.sl x.l y.l⟩).l) hsm fun b hb => .inl ((own_len _ _ _ _ _).trans hb)
    refine hS.stw 1 rfl rfl rfl rfl fun W9 hS => hS.ldw 1 rfl rfl ?_
    have he : mrg x y = (cutS ⟨x.k, x.n + y.n, x.sl + y.sl, zipL x.sl y.sl x.l y.l⟩, 0) := by unfold mrg; rw [if_pos ⟨hX, hY⟩, if_pos hk, if_neg ho]
    rw [he]
    obtain ⟨⟨a9, c9, e9, hs9, ho9⟩, hb9⟩ := hS.out 0 rfl
    cases e9
    exact ⟨⟨_, _, rfl, hs9, ho9⟩, hb9⟩
  refine If.split (fun hr' => bad W4 (fun h => by rw [hr.2 h.1] at hr'; cases hr') hS) fun hr' => ?_
  have hX : May x := hr.1 (by simpa using hr')
  refine hS.ldw 1 rfl rfl ?_
  refine hS.call (right_gives hwy (hy.bel hS.bel) rfl) ?_
  rintro _ W5 ⟨r', rfl, hr2⟩ hS
  refine AsB.mk ?_
  cases r' with
  | true => exact good W5 ⟨hX, hr2.1 rfl⟩ hS
  | false => exact bad W5 (fun h => by have := hr2.2 h.2; cases this) hS)
end Go.Proofs.Ytcagnabglppenaa.Me
