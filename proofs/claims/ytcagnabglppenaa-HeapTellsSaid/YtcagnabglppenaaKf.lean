/- The heap of numbers: Add, Raise, Drop. -/
import Derived.Test.YtcagnabglppenaaKe
namespace Go.Proofs.Ytcagnabglppenaa.Hp
open Go Go.RowKit Go.Vc Go.Proofs.Ytcagnabglppenaa.Fs Go.Proofs.Ytcagnabglppenaa.Hl

theorem MapsTo.push {f : Int → Option Nat} {l : List Item} (h : MapsTo f l) {x : Item} (hn : ¬ Key l x.1) : MapsTo (upd f x.1 (some l.length)) (l ++ [x]) := by
  intro k n
  by_cases hk : k = x.1
  · subst hk
    rw [upd_same]
    constructor
    · intro e; cases e; exact ⟨x.2, by simp⟩
    · rintro ⟨w, hw⟩
      by_cases hlt : n < l.length
      · rw [List.getElem?_append_left hlt] at hw
        exact absurd ⟨w, List.mem_of_getElem? hw⟩ hn
      · have := (List.getElem?_eq_some_iff.1 hw).1
        simp at this
        congr 1; omega
  · rw [upd_other _ _ hk, h k n]
    constructor
    · rintro ⟨w, hw⟩; exact ⟨w, by rw [List.getElem?_append_left (List.getElem?_eq_some_iff.1 hw).1]; exact hw⟩
    · rintro ⟨w, hw⟩
      by_cases hlt : n < l.length
      · rw [List.getElem?_append_left hlt] at hw; exact ⟨w, hw⟩
      · rw [List.getElem?_append_right (by omega)] at hw
        have hlen := (List.getElem?_eq_some_iff.1 hw).1
        have : n - l.length = 0 := by simp at hlen; omega
        rw [this] at hw
        simp at hw
        exact absurd (congrArg Prod.fst hw).symm hk
theorem alm_push {l : List Item} (h : HeapL leI l) (x : Item) : Alm leI (l ++ [x]) l.length := by
  refine ⟨fun i u v hi hil _ hu hv => ?_, fun i u v _ hi hp hu _ => ?_⟩
  · have hlen := (List.getElem?_eq_some_iff.1 hu).1
    simp at hlen
    have := par_lt hi
    rw [List.getElem?_append_left (by omega)] at hu hv
    exact h i u v hi hu hv
  · have hlen := (List.getElem?_eq_some_iff.1 hu).1
    have := par_lt hi
    simp at hlen
    omega
theorem add_gives {W : World} {B : Nat} {S : Nat → Prop} {l : List Item} (h : HeapS W B S l) (k w : Int) (hw : 0 ≤ w ∧ w < 18446744073709551616) (hlen : l.length + 1 < 1099511627776) :
    Gives Try.prog 21 #[ptr B, .int .i64 k, .int .u64 w] W fun v W' => (Key l k ∧ v = .int .i64 10 ∧ W' = W) ∨
      (¬ Key l k ∧ v = .int .i64 0 ∧ (∃ l', HeapS W' B (Hp.grow S W W') l' ∧ l'.Perm (l ++ [(k, w)])) ∧ Fr S W W') := F21_fn (by
  unfold F21
  obtain ⟨⟨m, sl, ho, hS⟩, hSlt⟩ := h
  obtain ⟨⟨f, hg, hmt⟩, _⟩ := ho.c
  obtain ⟨hBm, hgo⟩ := hg.apart
  refine CallK.mk (made_gives hg.hB) ?_
  rintro _ _ ⟨rfl, rfl⟩
  refine ⟨_, rfl, If.neg rfl ?_⟩
  rename_i W
  refine Ld1.ad hg.hB rfl ?_
  refine lookC hg.hm hmt k (fun i u hi => ?_) fun hn => ?_
  · exact ⟨_, _, rfl, _, rfl, _, rfl, If.pos rfl (.inl ⟨⟨u, List.mem_of_getElem? hi⟩, rfl, rfl⟩)⟩
  refine ⟨_, _, rfl, _, rfl, _, rfl, If.neg rfl ?_⟩
  obtain ⟨a, c, hsl⟩ := hg.hs.shape
  refine Ld1.ad hg.hB (u := sl) rfl ⟨a, l.length, c, hsl, ?_⟩
  refine ⟨⟨rfl, by decide, rfl, by decide, trivial⟩, ?_⟩
  refine NewSC.mk (cs := (encC (k, w)).toArray) ⟨rfl, by decide, trivial⟩ (by kernel_rfl) fun q W2 hq hqe hsz2 hb2 => ?_
  have hg2 := hg.below hb2
  obtain ⟨inf, hi1, hi2, hi3, hi4⟩ := i100
  have hq1 : ∀ (x : Item), ∀ u ∈ encC x, u.oneCell' = true := fun x u hu => by simp [encC] at hu; rcases hu with rfl | rfl <;> rfl
  obtain ⟨v', W3, hrun, hs3, hgr, hown⟩ := hg2.hs.append (P := Try.prog) (ty := 95) (ys := [(k, w)]) (c := 1) (a := ⟨q, 0, none⟩) encC_len hq1 t95 hi1 hi2 hi3 hi4 rfl (by decide) (cells_row (by simpa using hq)) (by simp; omega) (by simp [maxLen]; omega)
  rw [hsl] at hrun
  refine ⟨v', W3, hrun, ?_⟩
  obtain ⟨a', c', hv'⟩ := hs3.shape
  refine AsL.mk hv' ?_
  have hown' : ∀ g, v'.ownBlock = some g → g ≠ B ∧ g ≠ m := fun g hgv => by
    rcases hown with e | e
    · rw [e] at hgv; exact hgo g hgv
    · rw [e] at hgv; cases hgv
      have := heap_lt hg2.hB; have := hg2.hm.lt; omega
  have hB3 : W3.heap[B]? = some (.cells (headC m sl) 97 (0, 0)) := (hgr.block B (heap_lt hg2.hB) (fun e => (hgo B e.symm).1 rfl)).trans hg2.hB
  have hm3 := hg2.hm.of_heap (hgr.block m hg2.hm.lt (fun e => (hgo m e.symm).2 rfl))
  rw [← hv']
  have hv1 : v'.cells = #[v'] ∧ oneC v' = true := by rw [hv']; exact ⟨rfl, rfl⟩
  refine StV.ad1 hB3 hv1.1 (show 0 + 2 < 3 by decide) hv1.2 fun W4 hB4 hsz4 hf4 => ?_
  have hB4' : W4.heap[B]? = some (.cells (headC m v') 97 (0, 0)) := hB4
  have hm4 := hm3.of_heap (hf4.blk m hm3.lt (Ne.symm hBm))
  have hs4 : SlR W4 100 2 encC v' (l ++ [(k, w)]) := hs3.of_heap fun g hgv => hf4.blk g (hs3.lt hgv) (hown' g hgv).1
  refine Ld1.ad hB4' (u := v') rfl ⟨a', _, c', hv', ?_⟩
  refine Ld1.ad hB4' rfl ?_
  have hwr : IntKind.i64.wrap ((((l ++ [(k, w)]).length : Nat) : Int) - 1) = (l.length : Int) := by
    rw [wrap_i64] <;> simp <;> omega
  rw [hwr]
  obtain ⟨o, ho1, ho2⟩ := hm4.update (keyOK_int t3) t94 k l.length
  refine ⟨_, ho1, ?_⟩
  have hG5 : HeapG (World.setBlk W4 m o) B m v' (l ++ [(k, w)]) (upd f k (some l.length)) :=
    ⟨(setBlk_other hBm).trans hB4', ho2, hs4.of_heap fun g hgv => setBlk_other (hown' g hgv).2⟩
  have hC5 : HeapC (World.setBlk W4 m o) B m v' (l ++ [(k, w)]) := ⟨⟨_, hG5, hmt.push (x := (k, w)) hn⟩, by simpa using hlen⟩
  refine CallK.mk (up_gives hC5 (i := l.length) (by simp) (alm_push ho.ord (k, w))) ?_
  rintro _ W6 ⟨rfl, ⟨l', hC6, hp, hD⟩, hf6⟩
  refine .inr ⟨hn, rfl, ⟨l', ⟨⟨m, v', ⟨hC6, ?_, ?_⟩, ?_⟩, ?_⟩, hp⟩, ?_⟩
  · refine hD.heap fun i x y hi hpi hx _ => ?_
    have h1 := (List.getElem?_eq_some_iff.1 hx).1
    have h2 := hp.length_eq
    have := par_lt hi
    simp at h2
    omega
  · intro x hx
    have := hp.mem_iff.1 hx
    simp at this
    rcases this with h | rfl
    · exact ho.wf x h
    · exact hw
  · intro b hb
    have hlt6 : b < W6.heap.size := by
      have h5 := hG5.foot_lt hb
      exact Nat.lt_of_lt_of_le h5 hf6.size
    rcases hb with rfl | rfl | hb
    · exact .inl (hS _ (.inl rfl))
    · exact .inl (hS _ (.inr (.inl rfl)))
    · rcases hown with e | e
      · rw [e] at hb; exact .inl (hS b (.inr (.inr hb)))
      · rw [e] at hb; cases hb
        exact .inr ⟨by omega, hlt6⟩
  · rintro b (hb | hb)
    · have h1 := hSlt b hb
      have h2 := hb2.size
      have h3 := hgr.size
      have h6 := hf6.size
      rw [setBlk_size] at h6
      omega
    · exact hb.2
  · have f3 : Fr S W W3 := (frOf hb2).trans (Fr.grown hgr fun g hgv => hS g (.inr (.inr hgv)))
    have f4 : Fr S W W4 := f3.trans (hf4.mono fun b _ e => by subst e; exact hS _ (.inl rfl))
    have f5 : Fr S W (World.setBlk W4 m o) := f4.trans (Fr.setBlk (hS m (.inr (.inl rfl))) _ _)
    refine f5.trans' hf6 fun b hb hlt => ?_
    rcases hb with rfl | rfl | hb
    · exact hS _ (.inl rfl)
    · exact hS _ (.inr (.inl rfl))
    · rcases hown with e | e
      · rw [e] at hb; exact hS b (.inr (.inr hb))
      · rw [e] at hb; cases hb; omega)
end Go.Proofs.Ytcagnabglppenaa.Hp
