/- The heap of numbers: comparing, putting, swapping. -/
import Derived.Test.YtcagnabglppenaaKa
namespace Go.Proofs.Ytcagnabglppenaa.Hp
open Go Go.RowKit Go.Vc Go.Proofs.Ytcagnabglppenaa.Fs

abbrev ordV : Value := .func (.func 20) #[] #[]
def headC (m : Nat) (sl : Value) : Array Value := #[ordV, .map (some m), sl]
structure HeapG (W : World) (B m : Nat) (sl : Value) (l : List Item) (f : Int → Option Nat) : Prop where
  hB : W.heap[B]? = some (.cells (headC m sl) 97 (0, 0))
  hm : MapR W m (fun a : Int => Value.int .i64 a) (fun i : Nat => Value.int .i64 (i : Int)) f
  hs : SlR W 100 2 encC sl l
def foot (B m : Nat) (sl : Value) : Nat → Prop := fun b => b = B ∨ b = m ∨ sl.ownBlock = some b
theorem HeapG.of_heap {W W' : World} {B m : Nat} {sl : Value} {l : List Item} {f : Int → Option Nat} (h : HeapG W B m sl l f) (hh : ∀ b, b < W.heap.size → foot B m sl b → W'.heap[b]? = W.heap[b]?) : HeapG W' B m sl l f :=
  ⟨(hh B (heap_lt h.hB) (.inl rfl)).trans h.hB, h.hm.of_heap (hh m h.hm.lt (.inr (.inl rfl))), h.hs.of_heap fun g hg => hh g (h.hs.lt hg) (.inr (.inr hg))⟩
theorem HeapG.below {W W' : World} {B m : Nat} {sl : Value} {l : List Item} {f : Int → Option Nat} (h : HeapG W B m sl l f) (hb : Below W.heap.size W W') : HeapG W' B m sl l f := h.of_heap fun b hlt _ => hb.block b hlt
theorem HeapG.fr {S : Nat → Prop} {W W' : World} {B m : Nat} {sl : Value} {l : List Item} {f : Int → Option Nat} (h : HeapG W B m sl l f) (hf : Fr S W W') (hs : ∀ b, foot B m sl b → ¬ S b) : HeapG W' B m sl l f := h.of_heap fun b hlt hb => hf.blk b hlt (hs b hb)
theorem HeapG.apart {W : World} {B m : Nat} {sl : Value} {l : List Item} {f : Int → Option Nat} (h : HeapG W B m sl l f) : B ≠ m ∧ (∀ g, sl.ownBlock = some g → g ≠ B ∧ g ≠ m) := by
  obtain ⟨es, c, h1, _⟩ := h.hm
  refine ⟨fun e => ?_, fun g hg => ?_⟩
  · subst e; rw [h.hB] at h1; cases h1
  · rcases h.hs.2 with ⟨h2, _⟩ | ⟨g', cap, cur, h2, _, h3, _⟩
    · rw [h2] at hg; cases hg
    · rw [h2] at hg; cases hg
      refine ⟨fun e => ?_, fun e => ?_⟩
      · subst e
        have := h.hB.symm.trans h3
        simp at this
      · subst e; rw [h3] at h1; cases h1

theorem HeapG.foot_lt {W : World} {B m : Nat} {sl : Value} {l : List Item} {f : Int → Option Nat} (h : HeapG W B m sl l f) {b : Nat} (hb : foot B m sl b) : b < W.heap.size := by
  rcases hb with rfl | rfl | hb
  · exact heap_lt h.hB
  · exact h.hm.lt
  · exact h.hs.lt hb
theorem cmp_gives {W : World} {B m : Nat} {sl : Value} (hB : W.heap[B]? = some (.cells (headC m sl) 97 (0, 0))) (a b : Item) :
    Gives Try.prog 94 #[ptr B, .agg (encC a).toArray, .agg (encC b).toArray] W fun v W' => v = .int .i64 (cmpI a b) ∧ Below W.heap.size W W' := F94_fn (by
  unfold F94
  refine NewA.mk fun b4 W1 h4 _ _ hb1 => NewA.mk fun b5 W2 h5 _ _ hb2 => ?_
  have h4' := belowAt hb2 h4
  have hB2 := belowAt hb2 (belowAt hb1 hB)
  have hx : ((encC a).toArray)[0 + 1]? = some (.int .u64 a.2) := rfl
  refine Ld1.ad h4' hx ?_
  refine ⟨_, rfl, ?_⟩
  refine Ld1.ad h5 (u := .int .u64 b.2) rfl ⟨_, rfl, ?_⟩
  refine CallQ.mk (v := .int .i64 (ordI a.2 b.2)) (fun W' _ => (compare_gives _ _ _).mono fun v W'' h => ⟨h.1, by rw [h.2]; exact Below.refl _ _⟩) ⟨_, rfl, ?_⟩
  refine Ld1.mk hB2 (u := ordV) rfl ?_
  refine Ld1.mk h4' (u := .int .i64 a.1) rfl ⟨_, rfl, ?_⟩
  refine Ld1.mk h5 (u := .int .i64 b.1) rfl ⟨_, rfl, ?_⟩
  intro W3 hb3
  refine YieldK.func0 c20 (order_gives a.1 b.1 W3) ?_
  rintro v W4 ⟨rfl, rfl⟩
  refine ⟨_, rfl, ?_⟩
  refine NewSC.mk (cs := #[.int .i64 (ordI a.2 b.2), .int .i64 (ordI a.1 b.1)]) ⟨rfl, by omega, rfl, by omega, trivial⟩ (by kernel_rfl) fun g W5 h6 _ _ hb5 => ?_
  refine CallK.mk (or_gives _ _ _ _ _ h6) ?_
  rintro v W6 ⟨rfl, rfl⟩
  refine ⟨_, rfl, ?_, ?_⟩
  · unfold cmpI ordI
    by_cases h1 : a.2 < b.2
    · simp [h1]
    · by_cases h2 : a.2 > b.2
      · simp [h1, h2]
      · simp [h1, h2]
  · have s1 := hb1.size
    have s2 := hb2.size
    have s3 := hb3.size
    exact ((hb1.trans (hb2.mono s1)).trans (hb3.mono (by omega))).trans (hb5.mono (by omega)))

theorem foot_head {B m : Nat} {sl : Value} : foot B m sl B := .inl rfl
theorem SlR.own {W : World} {el : TypeId} {v : Value} {l : List Item} (h : SlR W el 2 encC v l) {i : Nat} (hi : i < l.length) :
    ∃ g cap cur, v = .slice (some ⟨g, 0, none⟩) l.length cap ∧ W.heap[g]? = some (.cells cur el (0, 0)) ∧ l.length ≤ cap ∧ cap ≤ maxLen ∧ cur.size = cap * 2 ∧ cur.toList.take (l.length * 2) = l.flatMap encC :=
  SlR.cells h (by intro e; subst e; simp at hi)
theorem put_gives {W : World} {B m : Nat} {sl : Value} {l : List Item} {f : Int → Option Nat} (h : HeapG W B m sl l f) {i : Nat} (hi : i < l.length) (x : Item) :
    Gives Try.prog 95 #[ptr B, .int .i64 (i : Int), .agg (encC x).toArray] W fun v W' => v = .tuple #[] ∧ HeapG W' B m sl (l.set i x) (upd f x.1 (some i)) ∧ Fr (foot B m sl) W W' := F95_fn (by
  unfold F95
  refine NewA.mk fun b5 W1 h5 hb5 hsz1 hb1 => ?_
  have h1 := h.below hb1
  obtain ⟨g, cap, cur, rfl, hg, hc1, hc2, hc3, hc4⟩ := SlR.own h1.hs hi
  obtain ⟨hBm, hgo⟩ := h1.apart
  obtain ⟨hgB, hgm⟩ := hgo g rfl
  refine Ld1.ad h1.hB rfl ⟨_, _, _, rfl, ?_⟩
  intro W2 hb2
  have h2 := h1.below hb2
  have hg2 := belowAt hb2 hg
  have h52 := belowAt hb2 h5
  refine LdNC.mk h52 (cs := encC x) rfl rfl ?_
  refine IdxS.mk rfl hi ?_
  have hlt : i * 2 + 2 ≤ cur.size := by rw [hc3]; omega
  obtain ⟨hs1, hs2⟩ := row_set encC_len x hc1 hc3 hc4 hi
  refine StV.ad hg2 (v := .agg (encC x).toArray) rfl (by simpa using hlt) rfl (cs := (cur.toList.take (i * 2) ++ encC x ++ cur.toList.drop (i * 2 + 2)).toArray) (by simp [Value.cells]) fun W3 hg3 hsz3 hf3 => ?_
  have hne5 : b5 ≠ g := fun e => by have := h.hs.lt (g := g) rfl; omega
  have hB3 := hf3.at (Ne.symm hgB) h2.hB
  refine Ld1.ad hB3 rfl ?_
  have h53 := hf3.at hne5 h52
  refine Ld1.mk h53 (u := .int .i64 x.1) rfl ⟨_, rfl, ?_⟩
  intro W4 hb4
  have hm4 : MapR W4 m (fun a : Int => Value.int .i64 a) (fun i : Nat => Value.int .i64 (i : Int)) f := (h2.hm.of_heap (hf3.blk m h2.hm.lt (Ne.symm hgm))).of_heap (hb4.block m (by rw [hsz3]; exact h2.hm.lt))
  obtain ⟨o, ho1, ho2⟩ := hm4.update (keyOK_int t3) t94 x.1 i
  refine ⟨_, ho1, ?_⟩
  have hB4 := belowAt hb4 hB3
  have hg4 := belowAt hb4 hg3
  have h54 := belowAt hb4 h53
  have hB5 : (World.setBlk W4 m o).heap[B]? = _ := (setBlk_other hBm).trans hB4
  have hg5 : (World.setBlk W4 m o).heap[g]? = _ := (setBlk_other hgm).trans hg4
  have hne5m : b5 ≠ m := fun e => by have := h.hm.lt; omega
  have h55 : (World.setBlk W4 m o).heap[b5]? = _ := (setBlk_other hne5m).trans h54
  refine ⟨rfl, ⟨hB5, ho2, ?_⟩, ?_⟩
  · have := SlR.mk (l := l.set i x) encC_len hg5 (by simpa using hc1) hc2 hs1 hs2
    rw [List.length_set] at this
    exact this
  · have f1 : Fr (foot B m (.slice (some ⟨g, 0, none⟩) l.length cap)) W W3 := ((frOf hb1).trans (frOf hb2)).trans (hf3.mono fun b _ hb => by subst hb; exact .inr (.inr rfl))
    exact (f1.trans (frOf hb4)).trans (Fr.setBlk (.inr (.inl rfl)) _ _))
theorem swap_gives {W : World} {B m : Nat} {sl : Value} {l : List Item} {f : Int → Option Nat} (h : HeapG W B m sl l f) {i j : Nat} {a b : Item} (hi : l[i]? = some a) (hj : l[j]? = some b) :
    Gives Try.prog 62 #[ptr B, .int .i64 (i : Int), .int .i64 (j : Int)] W fun v W' => v = .tuple #[] ∧ HeapG W' B m sl ((l.set i b).set j a) (upd (upd f b.1 (some i)) a.1 (some j)) ∧ Fr (foot B m sl) W W' := F62_fn (by
  unfold F62
  have hil : i < l.length := (List.getElem?_eq_some_iff.1 hi).1
  have hjl : j < l.length := (List.getElem?_eq_some_iff.1 hj).1
  obtain ⟨g, cap, cur, rfl, hg, hc1, hc2, hc3, hc4⟩ := SlR.own h.hs hil
  obtain ⟨hBm, hgo⟩ := h.apart
  obtain ⟨hgB, hgm⟩ := hgo g rfl
  refine Ld1.ad h.hB rfl ⟨_, _, _, rfl, ?_⟩
  refine IdxS.mk rfl hil ?_
  refine LdNC.ad hg (cs := encC a) rfl (by rw [Nat.zero_add]; exact row_get encC_len hc4 hi) ?_
  refine Ld1.ad h.hB rfl ⟨_, _, _, rfl, ?_⟩
  refine IdxS.mk rfl hjl ?_
  refine LdNC.ad hg (cs := encC b) rfl (by rw [Nat.zero_add]; exact row_get encC_len hc4 hj) ?_
  intro W1 hb1
  rintro b6 c6 v6 ⟨h6l, _, h6u, _⟩ ⟨rfl, h6c, h6⟩
  refine ⟨_, rfl, ?_⟩
  rintro b7 c7 v7 ⟨h7l, _, h7u, h7a⟩ ⟨rfl, h7c, h7⟩
  refine ⟨_, rfl, ?_⟩
  have h67 : b6 ≠ b7 := fun e => by subst e; have := h7a (b6, c6) (by simp); simp only at this; omega
  have hlt := h.hs.lt (g := g) rfl
  have hBlt := heap_lt h.hB
  have hmlt := h.hm.lt
  have h1 := h.below hb1
  have hg1 := belowAt hb1 hg
  refine StV.to h6 (v := .agg (encC a).toArray) rfl (by decide) rfl (cs := (encC a).toArray) rfl fun W2 h62 hsz2 hf2 => ?_
  have hB2 := hf2.at (by omega) h1.hB
  have hg2 := hf2.at (by omega) hg1
  refine StL.ad hB2 rfl ?_
  refine StN.ad hg2 rfl (by rw [Nat.zero_add]; exact row_get encC_len hc4 hj) ?_
  have h72 := hf2.at (Ne.symm h67) h7
  refine StV.to h72 (v := .agg (encC b).toArray) rfl (by decide) rfl (cs := (encC b).toArray) rfl fun W3 h73 hsz3 hf3 => ?_
  have hB3 := hf3.at (by omega) hB2
  have hg3 := hf3.at (by omega) hg2
  have h63 := hf3.at h67 h62
  refine LdNC.mk h73 (cs := encC b) rfl rfl ?_
  have h3 : HeapG W3 B m (.slice (some ⟨g, 0, none⟩) l.length cap) l f := (h1.fr hf2 (fun b hb => by have := h.foot_lt hb; omega)).fr hf3 (fun b hb => by have := h.foot_lt hb; omega)
  refine CallK.mk (put_gives h3 hil b) ?_
  rintro _ W4 ⟨rfl, h4, hf4⟩
  have h64 := hf4.at (fun hb => by have := h.foot_lt hb; omega) h63
  refine LdNC.mk h64 (cs := encC a) rfl rfl ?_
  refine CallK.mk (put_gives h4 (by simpa using hjl) a) ?_
  rintro _ W5 ⟨rfl, h5, hf5⟩
  refine ⟨rfl, h5, ?_⟩
  have g1 : Fr (foot B m (.slice (some ⟨g, 0, none⟩) l.length cap)) W W3 := ((frOf hb1).trans' hf2 (fun b hb hlt => by omega)).trans' hf3 (fun b hb hlt => by omega)
  exact (g1.trans hf4).trans hf5)
end Go.Proofs.Ytcagnabglppenaa.Hp
