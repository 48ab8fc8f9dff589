/- The heap of prefixes. -/
import Derived.Test.YtcagnabglppenaaPc
import Derived.Test.YtcagnabglppenaaPxb
import Derived.Test.YtcagnabglppenaaKc
import Derived.Test.YtcagnabglppenaaLa
import Derived.Test.YtcagnabglppenaaSp
namespace Go.Proofs.Ytcagnabglppenaa.Hq
open Go Go.RowKit Go.Vc Go.Proofs.Ytcagnabglppenaa.Fs Go.Proofs.Ytcagnabglppenaa.Px

theorem t118 : ∃ e, Try.prog.underlying 118 = some (.pointer e) := ⟨156, by kernel_rfl⟩
theorem t153 : Try.prog.underlying 153 = some (.map 65 3) := by kernel_rfl
theorem t154 : Try.prog.underlying 154 = some (.slice 158) := by kernel_rfl
theorem t124 : ∃ a b c, Try.prog.underlying 124 = some (.func a b c) := by
  have h : (match Try.prog.underlying 124 with | some (.func _ _ _) => true | _ => false) = true := by kernel_rfl
  split at h
  · rename_i a b c e; exact ⟨a, b, c, e⟩
  · cases h
def zeroP : List Value := [.int .i64 0, .int .i64 0, .int .i64 0, .int .i64 0, .int .u64 0, .int .u64 0, .string ByteArray.empty, .int .i64 0, .int .i64 0, .int .u64 0, .int .u64 0, .string ByteArray.empty]
theorem i158 : ∃ i, Try.prog.info? 158 = some i ∧ i.zero = some (.agg (zeroP ++ [Value.int .u64 0]).toArray) ∧ i.size = 13 ∧ i.bytes = 120 := by
  have h : (Try.prog.info? 158).map (fun i => (i.zero, i.size, i.bytes)) = some (some (.agg (zeroP ++ [Value.int .u64 0]).toArray), 13, 120) := by kernel_rfl
  cases hi : Try.prog.info? 158 with
  | none => rw [hi] at h; cases h
  | some i => rw [hi] at h; simp only [Option.map_some, Option.some.injEq, Prod.mk.injEq] at h; exact ⟨i, rfl, h.1, h.2.1, h.2.2⟩
theorem c79 : Ok Try.prog 79 := ⟨by kernel_rfl⟩
theorem c113 : Ok Try.prog 113 := ⟨by kernel_rfl⟩
theorem c116 : Ok Try.prog 116 := ⟨by kernel_rfl⟩
theorem c135 : Ok Try.prog 135 := ⟨by kernel_rfl⟩

abbrev Item := Pfx × Int
def encC (x : Item) : List Value := encP x.1 ++ [.int .u64 x.2]
theorem encC_len (x : Item) : (encC x).length = 13 := rfl
theorem encC_one : ∀ (x : Item), ∀ u ∈ encC x, u.oneCell' = true := fun x u hu => by
  simp only [encC, encP, List.cons_append, List.nil_append, List.mem_cons, List.not_mem_nil, or_false] at hu
  rcases hu with rfl | rfl | rfl | rfl | rfl | rfl | rfl | rfl | rfl | rfl | rfl | rfl | rfl <;> rfl
def encV (x : Item) : Value := .agg (encC x).toArray
def cmpI (x y : Item) : Int := lex (fun a b => ordI a.2 b.2) (fun a b => cmpP a.1 b.1) x y
theorem ord3It : Ord3 cmpI := (ord3I.map _).lex (ord3P.map _)
def ptr (b : Nat) : Value := .pointer (some ⟨b, 0, none⟩)
def leI (x y : Item) : Prop := cmpI x y ≤ 0
theorem leI_iff (x y : Item) : leI x y ↔ x.2 < y.2 ∨ (x.2 = y.2 ∧ cmpP x.1 y.1 ≤ 0) := by
  unfold leI cmpI lex ordI
  by_cases h1 : x.2 < y.2
  · simp [h1]
  · by_cases h2 : x.2 > y.2
    · simp only [h1, h2, if_true, if_false]
      constructor
      · intro h; simp at h
      · rintro (h | h)
        · exact h.elim
        · omega
    · have : x.2 = y.2 := by omega
      simp [this]
theorem leI_tot (x y : Item) : leI x y ∨ leI y x := by unfold leI; have := ord3It.sym x y; omega
theorem leI_tr (x y z : Item) : leI x y → leI y z → leI x z := ord3It.tr x y z
theorem leI_rf (x : Item) : leI x x := by unfold leI; rw [ord3It.refl]; decide
theorem cmpI_neg (x y : Item) : cmpI x y < 0 ↔ ¬ leI y x := by unfold leI; have := ord3It.sym x y; omega
theorem leI_anti {x y : Item} (h : leI x y) (k : leI y x) : x = y := by
  unfold leI at h k
  have := ord3It.sym x y
  have e : cmpI x y = 0 := by omega
  obtain ⟨h1, h2⟩ := lex_zero e
  exact Prod.ext (cmpP_zero h2) (ordI_zero h1)
theorem leI_same (k : Pfx) (u v : Int) : leI (k, u) (k, v) ↔ u ≤ v := by
  rw [leI_iff]
  simp only [ord3P.refl]
  omega
end Go.Proofs.Ytcagnabglppenaa.Hq
namespace Go.Proofs.Ytcagnabglppenaa.Hq
open Go Go.RowKit Go.Vc Go.Proofs.Ytcagnabglppenaa.Fs Go.Proofs.Ytcagnabglppenaa.Px

abbrev ordV : Value := .func (.func 79) #[] #[]
def headC (m : Nat) (sl : Value) : Array Value := #[ordV, .map (some m), sl]
structure HeapG (W : World) (B m : Nat) (sl : Value) (l : List Item) (f : Pfx → Option Nat) : Prop where
  hB : W.heap[B]? = some (.cells (headC m sl) 156 (0, 0))
  hm : MapR W m (fun a : Pfx => Value.agg (encP a).toArray) (fun i : Nat => Value.int .i64 (i : Int)) f
  hs : SlR W 158 13 encC sl l
def foot (B m : Nat) (sl : Value) : Nat → Prop := fun b => b = B ∨ b = m ∨ sl.ownBlock = some b
theorem HeapG.of_heap {W W' : World} {B m : Nat} {sl : Value} {l : List Item} {f : Pfx → Option Nat} (h : HeapG W B m sl l f) (hh : ∀ b, b < W.heap.size → foot B m sl b → W'.heap[b]? = W.heap[b]?) : HeapG W' B m sl l f :=
  ⟨(hh B (heap_lt h.hB) (.inl rfl)).trans h.hB, h.hm.of_heap (hh m h.hm.lt (.inr (.inl rfl))), h.hs.of_heap fun g hg => hh g (h.hs.lt hg) (.inr (.inr hg))⟩
theorem HeapG.below {W W' : World} {B m : Nat} {sl : Value} {l : List Item} {f : Pfx → Option Nat} (h : HeapG W B m sl l f) (hb : Below W.heap.size W W') : HeapG W' B m sl l f := h.of_heap fun b hlt _ => hb.block b hlt
theorem HeapG.fr {S : Nat → Prop} {W W' : World} {B m : Nat} {sl : Value} {l : List Item} {f : Pfx → Option Nat} (h : HeapG W B m sl l f) (hf : Fr S W W') (hs : ∀ b, foot B m sl b → ¬ S b) : HeapG W' B m sl l f := h.of_heap fun b hlt hb => hf.blk b hlt (hs b hb)
theorem HeapG.apart {W : World} {B m : Nat} {sl : Value} {l : List Item} {f : Pfx → Option Nat} (h : HeapG W B m sl l f) : B ≠ m ∧ (∀ g, sl.ownBlock = some g → g ≠ B ∧ g ≠ m) := by
  obtain ⟨es, c, h1, _⟩ := h.hm
  refine ⟨fun e => ?_, fun g hg => ?_⟩
  · subst e; rw [h.hB] at h1; cases h1
  · rcases h.hs.2 with ⟨h2, _⟩ | ⟨g', cap, cur, h2, _, h3, _⟩
    · rw [h2] at hg; cases hg
    · rw [h2] at hg; cases hg
      refine ⟨fun e => ?_, fun e => ?_⟩
      · subst e
        have := h.hB.symm.trans h3
        simp at this
      · subst e; rw [h3] at h1; cases h1

theorem HeapG.foot_lt {W : World} {B m : Nat} {sl : Value} {l : List Item} {f : Pfx → Option Nat} (h : HeapG W B m sl l f) {b : Nat} (hb : foot B m sl b) : b < W.heap.size := by
  rcases hb with rfl | rfl | hb
  · exact heap_lt h.hB
  · exact h.hm.lt
  · exact h.hs.lt hb
theorem cmp_gives {W : World} {B m : Nat} {sl : Value} (hB : W.heap[B]? = some (.cells (headC m sl) 156 (0, 0))) (a b : Item) :
    Gives Try.prog 116 #[ptr B, .agg (encC a).toArray, .agg (encC b).toArray] W fun v W' => v = .int .i64 (cmpI a b) ∧ Below W.heap.size W W' := F116_fn (by
  unfold F116
  refine NewA.mk fun b4 W1 h4 _ _ hb1 => NewA.mk fun b5 W2 h5 _ _ hb2 => ?_
  have h4' := belowAt hb2 h4
  have hB2 := belowAt hb2 (belowAt hb1 hB)
  refine Ld1.ad h4' (u := .int .u64 a.2) rfl ⟨_, rfl, ?_⟩
  refine Ld1.ad h5 (u := .int .u64 b.2) rfl ⟨_, rfl, ?_⟩
  refine CallQ.same (fun W' => compareU_gives a.2 b.2 W') ⟨_, rfl, ?_⟩
  refine Ld1.mk hB2 (u := ordV) rfl ?_
  refine LdNC.mk h4' (cs := encP a.1) rfl rfl ?_
  refine LdNC.mk h5 (cs := encP b.1) rfl rfl ?_
  intro W3 hb3
  refine YieldK.func0 c79 (pcmp_gives a.1 b.1 W3) ?_
  rintro v W4 ⟨rfl, hb4⟩
  refine ⟨_, rfl, ?_⟩
  refine NewSC.mk (cs := ([ordI a.2 b.2, cmpP a.1 b.1].map (Value.int .i64)).toArray) ⟨rfl, by decide, rfl, by decide, trivial⟩ (by kernel_rfl) fun g W5 h6 _ _ hb5 => ?_
  refine CallK.mk (or_gives [ordI a.2 b.2, cmpP a.1 b.1] (by simp) g 3 2 rfl W5 h6) ?_
  rintro v W6 ⟨rfl, e6⟩
  obtain rfl := e6.symm
  refine ⟨_, rfl, ?_, ?_⟩
  · congr 1
    exact fnz_lex (fun a b : Item => ordI a.2 b.2) (fun a b : Item => cmpP a.1 b.1) a b
  · have s1 := hb1.size; have s2 := hb2.size; have s3 := hb3.size; have s4 := hb4.size
    exact (((hb1.trans (hb2.mono s1)).trans (hb3.mono (by omega))).trans (hb4.mono (by omega))).trans (hb5.mono (by omega)))

theorem foot_head {B m : Nat} {sl : Value} : foot B m sl B := .inl rfl
theorem SlR.own {W : World} {el : TypeId} {v : Value} {l : List Item} (h : SlR W el 13 encC v l) {i : Nat} (hi : i < l.length) :
    ∃ g cap cur, v = .slice (some ⟨g, 0, none⟩) l.length cap ∧ W.heap[g]? = some (.cells cur el (0, 0)) ∧ l.length ≤ cap ∧ cap ≤ maxLen ∧ cur.size = cap * 13 ∧ cur.toList.take (l.length * 13) = l.flatMap encC :=
  SlR.cells h (by intro e; subst e; simp at hi)
theorem put_gives {W : World} {B m : Nat} {sl : Value} {l : List Item} {f : Pfx → Option Nat} (h : HeapG W B m sl l f) {i : Nat} (hi : i < l.length) (x : Item) :
    Gives Try.prog 149 #[ptr B, .int .i64 (i : Int), .agg (encC x).toArray] W fun v W' => v = .tuple #[] ∧ HeapG W' B m sl (l.set i x) (upd f x.1 (some i)) ∧ Fr (foot B m sl) W W' := F149_fn (by
  unfold F149
  refine NewA.mk fun b5 W1 h5 hb5 hsz1 hb1 => ?_
  have h1 := h.below hb1
  obtain ⟨g, cap, cur, rfl, hg, hc1, hc2, hc3, hc4⟩ := SlR.own h1.hs hi
  obtain ⟨hBm, hgo⟩ := h1.apart
  obtain ⟨hgB, hgm⟩ := hgo g rfl
  refine Ld1.ad h1.hB rfl ⟨_, _, _, rfl, ?_⟩
  intro W2 hb2
  have h2 := h1.below hb2
  have hg2 := belowAt hb2 hg
  have h52 := belowAt hb2 h5
  refine LdNC.mk h52 (cs := encC x) rfl rfl ?_
  refine IdxS.mk rfl hi ?_
  have hlt : i * 13 + 13 ≤ cur.size := by rw [hc3]; omega
  obtain ⟨hs1, hs2⟩ := row_set encC_len x hc1 hc3 hc4 hi
  refine StV.ad hg2 (v := .agg (encC x).toArray) rfl (by simpa using hlt) rfl (cs := (cur.toList.take (i * 13) ++ encC x ++ cur.toList.drop (i * 13 + 13)).toArray) (by simp [Value.cells]) fun W3 hg3 hsz3 hf3 => ?_
  have hne5 : b5 ≠ g := fun e => by have := h.hs.lt (g := g) rfl; omega
  have hB3 := hf3.at (Ne.symm hgB) h2.hB
  refine Ld1.ad hB3 rfl ?_
  have h53 := hf3.at hne5 h52
  refine LdNC.mk h53 (cs := encP x.1) rfl rfl ?_
  intro W4 hb4
  have hm4 : MapR W4 m (fun a : Pfx => Value.agg (encP a).toArray) (fun i : Nat => Value.int .i64 (i : Int)) f := (h2.hm.of_heap (hf3.blk m h2.hm.lt (Ne.symm hgm))).of_heap (hb4.block m (by rw [hsz3]; exact h2.hm.lt))
  obtain ⟨o, ho1, ho2⟩ := hm4.update (keyOK_P) t153 x.1 i
  refine ⟨_, ho1, ?_⟩
  have hB4 := belowAt hb4 hB3
  have hg4 := belowAt hb4 hg3
  have h54 := belowAt hb4 h53
  have hB5 : (World.setBlk W4 m o).heap[B]? = _ := (setBlk_other hBm).trans hB4
  have hg5 : (World.setBlk W4 m o).heap[g]? = _ := (setBlk_other hgm).trans hg4
  have hne5m : b5 ≠ m := fun e => by have := h.hm.lt; omega
  have h55 : (World.setBlk W4 m o).heap[b5]? = _ := (setBlk_other hne5m).trans h54
  refine ⟨rfl, ⟨hB5, ho2, ?_⟩, ?_⟩
  · have := SlR.mk (l := l.set i x) encC_len hg5 (by simpa using hc1) hc2 hs1 hs2
    rw [List.length_set] at this
    exact this
  · have f1 : Fr (foot B m (.slice (some ⟨g, 0, none⟩) l.length cap)) W W3 := ((frOf hb1).trans (frOf hb2)).trans (hf3.mono fun b _ hb => by subst hb; exact .inr (.inr rfl))
    exact (f1.trans (frOf hb4)).trans (Fr.setBlk (.inr (.inl rfl)) _ _))
theorem swap_gives {W : World} {B m : Nat} {sl : Value} {l : List Item} {f : Pfx → Option Nat} (h : HeapG W B m sl l f) {i j : Nat} {a b : Item} (hi : l[i]? = some a) (hj : l[j]? = some b) :
    Gives Try.prog 128 #[ptr B, .int .i64 (i : Int), .int .i64 (j : Int)] W fun v W' => v = .tuple #[] ∧ HeapG W' B m sl ((l.set i b).set j a) (upd (upd f b.1 (some i)) a.1 (some j)) ∧ Fr (foot B m sl) W W' := F128_fn (by
  unfold F128
  have hil : i < l.length := (List.getElem?_eq_some_iff.1 hi).1
  have hjl : j < l.length := (List.getElem?_eq_some_iff.1 hj).1
  obtain ⟨g, cap, cur, rfl, hg, hc1, hc2, hc3, hc4⟩ := SlR.own h.hs hil
  obtain ⟨hBm, hgo⟩ := h.apart
  obtain ⟨hgB, hgm⟩ := hgo g rfl
  refine Ld1.ad h.hB rfl ⟨_, _, _, rfl, ?_⟩
  refine IdxS.mk rfl hil ?_
  refine LdNC.ad hg (cs := encC a) rfl (by rw [Nat.zero_add]; exact row_get encC_len hc4 hi) ?_
  refine Ld1.ad h.hB rfl ⟨_, _, _, rfl, ?_⟩
  refine IdxS.mk rfl hjl ?_
  refine LdNC.ad hg (cs := encC b) rfl (by rw [Nat.zero_add]; exact row_get encC_len hc4 hj) ?_
  intro W1 hb1
  rintro b6 c6 v6 ⟨h6l, _, h6u, _⟩ ⟨rfl, h6c, h6⟩
  refine ⟨_, rfl, ?_⟩
  rintro b7 c7 v7 ⟨h7l, _, h7u, h7a⟩ ⟨rfl, h7c, h7⟩
  refine ⟨_, rfl, ?_⟩
  have h67 : b6 ≠ b7 := fun e => by subst e; have := h7a (b6, c6) (by simp); simp only at this; omega
  have hlt := h.hs.lt (g := g) rfl
  have hBlt := heap_lt h.hB
  have hmlt := h.hm.lt
  have h1 := h.below hb1
  have hg1 := belowAt hb1 hg
  refine StV.to h6 (v := .agg (encC a).toArray) rfl (by decide) rfl (cs := (encC a).toArray) rfl fun W2 h62 hsz2 hf2 => ?_
  have hB2 := hf2.at (by omega) h1.hB
  have hg2 := hf2.at (by omega) hg1
  refine StL.ad hB2 rfl ?_
  refine StN.ad hg2 rfl (by rw [Nat.zero_add]; exact row_get encC_len hc4 hj) ?_
  have h72 := hf2.at (Ne.symm h67) h7
  refine StV.to h72 (v := .agg (encC b).toArray) rfl (by decide) rfl (cs := (encC b).toArray) rfl fun W3 h73 hsz3 hf3 => ?_
  have hB3 := hf3.at (by omega) hB2
  have hg3 := hf3.at (by omega) hg2
  have h63 := hf3.at h67 h62
  refine LdNC.mk h73 (cs := encC b) rfl rfl ?_
  have h3 : HeapG W3 B m (.slice (some ⟨g, 0, none⟩) l.length cap) l f := (h1.fr hf2 (fun b hb => by have := h.foot_lt hb; omega)).fr hf3 (fun b hb => by have := h.foot_lt hb; omega)
  refine CallK.mk (put_gives h3 hil b) ?_
  rintro _ W4 ⟨rfl, h4, hf4⟩
  have h64 := hf4.at (fun hb => by have := h.foot_lt hb; omega) h63
  refine LdNC.mk h64 (cs := encC a) rfl rfl ?_
  refine CallK.mk (put_gives h4 (by simpa using hjl) a) ?_
  rintro _ W5 ⟨rfl, h5, hf5⟩
  refine ⟨rfl, h5, ?_⟩
  have g1 : Fr (foot B m (.slice (some ⟨g, 0, none⟩) l.length cap)) W W3 := ((frOf hb1).trans' hf2 (fun b hb hlt => by omega)).trans' hf3 (fun b hb hlt => by omega)
  exact (g1.trans hf4).trans hf5)
end Go.Proofs.Ytcagnabglppenaa.Hq
namespace Go.Proofs.Ytcagnabglppenaa.Hq
open Go Go.RowKit Go.Vc Go.Proofs.Ytcagnabglppenaa.Fs Go.Proofs.Ytcagnabglppenaa.Px Go.Proofs.Ytcagnabglppenaa.Hl

/-- Where each key stands. -/
def MapsTo (f : Pfx → Option Nat) (l : List Item) : Prop := ∀ k i, f k = some i ↔ ∃ w, l[i]? = some (k, w)
theorem MapsTo.swap {f : Pfx → Option Nat} {l : List Item} (h : MapsTo f l) {i j : Nat} {a b : Item} (hi : l[i]? = some a) (hj : l[j]? = some b) :
    MapsTo (upd (upd f b.1 (some i)) a.1 (some j)) (swapL l i j a b) := by
  have hil := (List.getElem?_eq_some_iff.1 hi).1
  have hjl := (List.getElem?_eq_some_iff.1 hj).1
  have fa : f a.1 = some i := (h a.1 i).2 ⟨a.2, hi⟩
  have fb : f b.1 = some j := (h b.1 j).2 ⟨b.2, hj⟩
  intro k n
  by_cases hka : k = a.1
  · subst hka
    rw [upd_same]
    constructor
    · intro e; cases e; exact ⟨a.2, swapL_j hjl⟩
    · rintro ⟨w, hw⟩
      by_cases hnj : n = j
      · rw [hnj]
      · by_cases hni : n = i
        · subst hni
          rw [swapL_i hil hnj] at hw
          have : b.1 = a.1 := by cases hw; rfl
          rw [this, fa] at fb
          exact fb.symm
        · rw [swapL_o hni hnj] at hw
          have := (h a.1 n).2 ⟨w, hw⟩
          rw [fa] at this
          exact absurd (Option.some.inj this).symm hni
  · rw [upd_other _ _ hka]
    by_cases hkb : k = b.1
    · subst hkb
      rw [upd_same]
      have hij : i ≠ j := fun e => by subst e; rw [hi] at hj; cases hj; exact hka rfl
      constructor
      · intro e; cases e; exact ⟨b.2, swapL_i hil hij⟩
      · rintro ⟨w, hw⟩
        by_cases hni : n = i
        · rw [hni]
        · by_cases hnj : n = j
          · subst hnj
            rw [swapL_j hjl] at hw
            cases hw
            exact absurd rfl hka
          · rw [swapL_o hni hnj] at hw
            have := (h b.1 n).2 ⟨w, hw⟩
            rw [fb] at this
            exact absurd (Option.some.inj this).symm hnj
    · rw [upd_other _ _ hkb, h k n]
      by_cases hni : n = i
      · subst hni
        constructor
        · rintro ⟨w, hw⟩; rw [hi] at hw; cases hw; exact absurd rfl hka
        · rintro ⟨w, hw⟩
          by_cases hij : n = j
          · subst hij; rw [swapL_j hjl] at hw; cases hw; exact absurd rfl hka
          · rw [swapL_i hil hij] at hw; cases hw; exact absurd rfl hkb
      · by_cases hnj : n = j
        · subst hnj
          constructor
          · rintro ⟨w, hw⟩; rw [hj] at hw; cases hw; exact absurd rfl hkb
          · rintro ⟨w, hw⟩; rw [swapL_j hjl] at hw; cases hw; exact absurd rfl hka
        · rw [swapL_o hni hnj]
structure HeapC (W : World) (B m : Nat) (sl : Value) (l : List Item) : Prop where
  g : ∃ f, HeapG W B m sl l f ∧ MapsTo f l
  len : l.length < 1099511627776
theorem HeapC.below {W W' : World} {B m : Nat} {sl : Value} {l : List Item} (h : HeapC W B m sl l) (hb : Below W.heap.size W W') : HeapC W' B m sl l := by
  obtain ⟨⟨f, h1, h2⟩, h3⟩ := h; exact ⟨⟨f, h1.below hb, h2⟩, h3⟩
theorem HeapC.fr {S : Nat → Prop} {W W' : World} {B m : Nat} {sl : Value} {l : List Item} (h : HeapC W B m sl l) (hf : Fr S W W') (hs : ∀ b, foot B m sl b → b < W.heap.size → ¬ S b) : HeapC W' B m sl l := by
  obtain ⟨⟨f, h1, h2⟩, h3⟩ := h; exact ⟨⟨f, h1.fr hf (fun b hb => hs b hb (h1.foot_lt hb)), h2⟩, h3⟩
theorem swapC_gives {W : World} {B m : Nat} {sl : Value} {l : List Item} (h : HeapC W B m sl l) {i j : Nat} {a b : Item} (hi : l[i]? = some a) (hj : l[j]? = some b) :
    Gives Try.prog 128 #[ptr B, .int .i64 (i : Int), .int .i64 (j : Int)] W fun v W' => v = .tuple #[] ∧ HeapC W' B m sl (swapL l i j a b) ∧ Fr (foot B m sl) W W' := by
  obtain ⟨⟨f, h1, h2⟩, h3⟩ := h
  exact (swap_gives h1 hi hj).mono fun v W' ⟨e, hh, hf⟩ => ⟨e, ⟨⟨_, hh, h2.swap hi hj⟩, by rw [swapL_len]; exact h3⟩, hf⟩
theorem par_int {c : Nat} (h0 : 0 < c) (h1 : c < 1099511627776) : IntKind.i64.wrap ((IntKind.i64.wrap ((c : Int) - 1)).tdiv 2) = ((par c : Nat) : Int) := by
  rw [wrap_i64 (x := (c : Int) - 1) (by omega) (by omega)]
  have : ((c : Int) - 1).tdiv 2 = ((par c : Nat) : Int) := by
    unfold par
    rw [show (c : Int) - 1 = ((c - 1 : Nat) : Int) by omega]
    rfl
  rw [this, wrap_i64] <;> (unfold par; omega)
theorem up_gives {W : World} {B m : Nat} {sl : Value} {l : List Item} (h : HeapC W B m sl l) {i : Nat} (hi : i < l.length) (ha : Alm leI l i) :
    Gives Try.prog 106 #[ptr B, .int .i64 (i : Int)] W fun v W' => v = .tuple #[] ∧ (∃ l', HeapC W' B m sl l' ∧ l'.Perm l ∧ AlmD leI l' i) ∧ Fr (foot B m sl) W W' := F106_fn (by
  unfold F106
  refine Lp.i1 (fun c W' => ∃ cn : Nat, c = (cn : Int) ∧ ∃ l', HeapC W' B m sl l' ∧ l'.Perm l ∧ cn < l'.length ∧ Fr (foot B m sl) W W' ∧ ((cn = i ∧ l' = l) ∨ AlmU leI l' cn)) (fun c _ => c.toNat)
    ⟨i, rfl, l, h, List.Perm.refl _, hi, Fr.refl _ _, .inl ⟨rfl, rfl⟩⟩ ?_
  rintro _ W' k ⟨c, rfl, l', h', hp, hc, hfr, hcase⟩ hk
  have hlen := h'.len
  obtain ⟨⟨f, hg, hmt⟩, _⟩ := h'
  have halm : Alm leI l' c := by
    rcases hcase with ⟨rfl, rfl⟩ | hu
    · exact ha
    · exact hu.alm
  have fin : (∀ x y, 0 < c → l'[c]? = some x → l'[par c]? = some y → leI y x) → AlmD leI l' i := fun hh => by
    rcases hcase with ⟨rfl, rfl⟩ | hu
    · exact halm.almD hh
    · exact (hu.heap hh).almD leI_tr i
  refine ⟨_, rfl, If.dec (fun hpos => ⟨by decide, ?_⟩) fun hnp => ?_⟩
  · have hc0 : 0 < c := by omega
    have hpc := par_lt hc0
    obtain ⟨g, cap, cur, rfl, hgc, hc1, hc2, hc3, hc4⟩ := SlR.own hg.hs hc
    have hx : l'[c]? = some l'[c] := List.getElem?_eq_getElem hc
    have hy : l'[par c]? = some (l'[par c]'(by omega)) := List.getElem?_eq_getElem (by omega)
    generalize l'[c] = x at hx
    generalize (l'[par c]'(by omega)) = y at hy
    refine Ld1.ad hg.hB rfl ⟨_, _, _, rfl, ?_⟩
    refine IdxS.mk (par_int hc0 (by omega)) (by omega) ?_
    refine LdNC.ad hgc (cs := encC y) rfl (by rw [Nat.zero_add]; exact row_get encC_len hc4 hy) ?_
    refine Ld1.ad hg.hB rfl ⟨_, _, _, rfl, ?_⟩
    intro W2 hb2
    refine IdxS.mk rfl hc ?_
    have hgc2 := belowAt hb2 hgc
    have hB2 := belowAt hb2 hg.hB
    refine LdNC.ad hgc2 (cs := encC x) rfl (by rw [Nat.zero_add]; exact row_get encC_len hc4 hx) ?_
    refine CallK.mk (cmp_gives hB2 y x) ?_
    rintro _ W3 ⟨rfl, hb3⟩
    refine ⟨_, rfl, ?_⟩
    have hgc3 := belowAt hb3 hgc2
    have hB3 := belowAt hb3 hB2
    have hb13 := hb2.trans (hb3.mono hb2.size)
    have hC3 : HeapC W3 B m (.slice (some ⟨g, 0, none⟩) l'.length cap) l' := ⟨⟨f, hg.below hb13, hmt⟩, hlen⟩
    refine If.dec (fun hle => ?_) fun hnle => ?_
    · refine ⟨rfl, ⟨l', hC3, hp, fin fun x' y' _ hx' hy' => ?_⟩, hfr.trans (frOf hb13)⟩
      rw [hx] at hx'; rw [hy] at hy'; cases hx'; cases hy'; exact hle
    · rw [par_int hc0 (by omega)]
      refine CallK.mk (swapC_gives hC3 hy hx) ?_
      rintro _ W4 ⟨rfl, hC4, hf4⟩
      refine hk _ _ ⟨par c, rfl, _, hC4, (swapL_perm hy hx).trans hp, by rw [swapL_len]; omega, (hfr.trans (frOf hb13)).trans hf4, .inr ?_⟩ (by simp; omega)
      exact halm.up leI_tot leI_tr hc0 hx hy hnle
  · have hc0 : c = 0 := by omega
    exact ⟨rfl, ⟨l', ⟨⟨f, hg, hmt⟩, hlen⟩, hp, fin fun _ _ h => by omega⟩, hfr⟩)
theorem child_int {c : Nat} (h1 : c < 1099511627776) : IntKind.i64.wrap ((IntKind.i64.wrap (2 * (c : Int))) + 1) = ((2 * c + 1 : Nat) : Int) ∧ IntKind.i64.wrap ((IntKind.i64.wrap (2 * (c : Int))) + 2) = ((2 * c + 2 : Nat) : Int) := by
  rw [wrap_i64 (x := 2 * (c : Int)) (by omega) (by omega)]
  constructor <;> rw [wrap_i64] <;> omega
theorem down_gives {W : World} {B m : Nat} {sl : Value} {l : List Item} (h : HeapC W B m sl l) {i : Nat} (hi : i < l.length) (ha : AlmD leI l i) :
    Gives Try.prog 110 #[ptr B, .int .i64 (i : Int)] W fun v W' => v = .tuple #[] ∧ (∃ l', HeapC W' B m sl l' ∧ l'.Perm l ∧ HeapL leI l') ∧ Fr (foot B m sl) W W' := F110_fn (by
  unfold F110
  refine Lp.i1 (fun c W' => ∃ cn : Nat, c = (cn : Int) ∧ ∃ l', HeapC W' B m sl l' ∧ l'.Perm l ∧ cn < l'.length ∧ Fr (foot B m sl) W W' ∧ AlmD leI l' cn) (fun c _ => (l.length - c).toNat)
    ⟨i, rfl, l, h, List.Perm.refl _, hi, Fr.refl _ _, ha⟩ ?_
  rintro _ W' k ⟨c, rfl, l', h', hp, hc, hfr, hD⟩ hk
  have hlen := h'.len
  have hll : l'.length = l.length := hp.length_eq
  refine ⟨_, rfl, ?_⟩
  obtain ⟨ch1, ch2⟩ := child_int (c := c) (by omega)
  rw [ch1, ch2]
  have hx : l'[c]? = some l'[c] := List.getElem?_eq_getElem hc
  generalize l'[c] = x at hx
  refine Lp.i2 (fun s d W2 => ∃ sn dn : Nat, s = (sn : Int) ∧ d = (dn : Int) ∧ HeapC W2 B m sl l' ∧ Fr (foot B m sl) W W2 ∧ (sn = c ∨ (0 < sn ∧ par sn = c)) ∧ sn < l'.length ∧ 2 * c + 1 ≤ dn ∧ dn ≤ 2 * c + 3 ∧
      (∃ y, l'[sn]? = some y ∧ leI y x ∧ ∀ j u, 0 < j → par j = c → j < dn → l'[j]? = some u → leI y u)) (fun _ d _ => (2 * c + 3 - d).toNat)
    ⟨c, 2 * c + 1, rfl, rfl, h', hfr, .inl rfl, hc, by omega, by omega, x, hx, leI_rf x, fun j u hj hpj hlt => by unfold par at hpj; omega⟩ ?_
  rintro _ _ W2 k2 ⟨s, d, rfl, rfl, h2, hf2, hs, hsl, hd1, hd2, y, hy, hyx, hleast⟩ hk2
  obtain ⟨⟨f, hg, hmt⟩, _⟩ := h2
  refine ⟨_, rfl, _, rfl, ?_⟩
  -- the end of the inner loop
  have fin : ∀ W3, HeapC W3 B m sl l' → Fr (foot B m sl) W W3 → (∀ j u, 0 < j → par j = c → l'[j]? = some u → leI y u) →
      If ((s : Int) == (c : Int)) ((fun (v : Value) W' => v = .tuple #[] ∧ (∃ l', HeapC W' B m sl l' ∧ l'.Perm l ∧ HeapL leI l') ∧ Fr (foot B m sl) W W') (.tuple #[]) W3)
        (CallK Try.prog 128 #[.pointer (some ⟨B, 0, none⟩), .int .i64 (c : Int), .int .i64 (s : Int)] W3 (fun _ _ => False) fun u50 W_7 => k [.int .i64 (s : Int)] W_7) := by
    intro W3 h3 hf3 hall
    refine If.beq (fun he => ?_) fun hne => ?_
    · have he' : s = c := by omega
      subst he'
      rw [hx] at hy; cases hy
      exact ⟨rfl, ⟨l', h3, hp, hD.heap fun j u v hj hpj hu hv => by rw [hx] at hv; cases hv; exact hall j u hj hpj hu⟩, hf3⟩
    · have hs' : 0 < s ∧ par s = c := hs.resolve_left (by omega)
      have hpl := par_lt hs'.1
      refine CallK.mk (swapC_gives h3 hx hy) ?_
      rintro _ W4 ⟨rfl, h4, hf4⟩
      refine hk _ _ ⟨s, rfl, _, h4, (swapL_perm hx hy).trans hp, by rw [swapL_len]; exact hsl, hf3.trans hf4, hD.down hs'.1 hs'.2 hx hy hyx hall⟩ ?_
      omega
  refine Join.use fun J hJ => ?_
  have hJf : ∀ W3, HeapC W3 B m sl l' → Fr (foot B m sl) W W3 → (∀ j u, 0 < j → par j = c → l'[j]? = some u → leI y u) → J false W3 := by
    intro W3 h3 hf3 hall
    rw [hJ]
    exact If.neg rfl (fin W3 h3 hf3 hall)
  refine If.dec (fun hle => ?_) fun hnle => ?_
  · have hds : ∃ a cc, sl = .slice a l'.length cc := hg.hs.shape
    obtain ⟨a, cc, hsl'⟩ := hds
    refine Ld1.ad hg.hB (u := sl) rfl ⟨a, l'.length, cc, hsl', ?_⟩
    by_cases hdl : d < l'.length
    · show J (decide ((d : Int) < (l'.length : Int))) W2
      rw [decide_eq_true (by omega : (d : Int) < (l'.length : Int)), hJ]
      obtain ⟨g, cap, cur, rfl, hgc, hc1, hc2, hc3, hc4⟩ := SlR.own hg.hs hc
      have hu : l'[d]? = some l'[d] := List.getElem?_eq_getElem hdl
      generalize l'[d] = u at hu
      refine If.pos rfl ?_
      refine Ld1.ad hg.hB rfl ⟨_, _, _, rfl, ?_⟩
      refine IdxS.mk rfl hdl ?_
      refine LdNC.ad hgc (cs := encC u) rfl (by rw [Nat.zero_add]; exact row_get encC_len hc4 hu) ?_
      refine Ld1.ad hg.hB rfl ⟨_, _, _, rfl, ?_⟩
      intro W3 hb3
      refine IdxS.mk rfl hsl ?_
      have hgc3 := belowAt hb3 hgc
      have hB3 := belowAt hb3 hg.hB
      refine LdNC.ad hgc3 (cs := encC y) rfl (by rw [Nat.zero_add]; exact row_get encC_len hc4 hy) ?_
      refine CallK.mk (cmp_gives hB3 u y) ?_
      rintro _ W4 ⟨rfl, hb4⟩
      refine ⟨_, rfl, ?_⟩
      have hgc4 := belowAt hb4 hgc3
      have hB4 := belowAt hb4 hB3
      have hb24 := hb3.trans (hb4.mono hb3.size)
      have hC4 : HeapC W4 B m (.slice (some ⟨g, 0, none⟩) l'.length cap) l' := ⟨⟨f, hg.below hb24, hmt⟩, hlen⟩
      have hf4 := hf2.trans (frOf (S := foot B m (.slice (some ⟨g, 0, none⟩) l'.length cap)) hb24)
      have hd3 : (d : Int) ≤ ((2 * c + 2 : Nat) : Int) := hle
      have hw : IntKind.i64.wrap ((d : Int) + 1) = ((d + 1 : Nat) : Int) := by rw [wrap_i64] <;> omega
      refine Join.use fun J1 hJ1 => ?_
      have hpd : par d = c := by unfold par; omega
      refine If.dec (fun hlt => ?_) fun hnlt => ?_
      · rw [hJ1]
        have huy := (cmpI_neg u y).1 hlt
        have hle' : leI u y := (leI_tot u y).resolve_right huy
        refine hk2 _ _ _ ⟨d, d + 1, rfl, hw, hC4, hf4, .inr ⟨by omega, hpd⟩, hdl, by omega, by omega, u, hu, leI_tr _ _ _ hle' hyx, fun j v hj hpj hlt' hv => ?_⟩ (by rw [hw]; omega)
        by_cases hjd : j = d
        · subst hjd; rw [hu] at hv; cases hv; exact leI_rf _
        · exact leI_tr _ _ _ hle' (hleast j v hj hpj (by omega) hv)
      · rw [hJ1]
        have huy : leI y u := Classical.byContradiction fun hn => hnlt ((cmpI_neg u y).2 hn)
        refine hk2 _ _ _ ⟨s, d + 1, rfl, hw, hC4, hf4, hs, hsl, by omega, by omega, y, hy, hyx, fun j v hj hpj hlt' hv => ?_⟩ (by rw [hw]; omega)
        by_cases hjd : j = d
        · subst hjd; rw [hu] at hv; cases hv; exact huy
        · exact hleast j v hj hpj (by omega) hv
    · show J (decide ((d : Int) < (l'.length : Int))) W2
      rw [decide_eq_false (by omega : ¬ (d : Int) < (l'.length : Int))]
      refine hJf W2 ⟨⟨f, hg, hmt⟩, hlen⟩ hf2 fun j u hj hpj hu => hleast j u hj hpj ?_ hu
      have := (List.getElem?_eq_some_iff.1 hu).1
      omega
  · refine hJf W2 ⟨⟨f, hg, hmt⟩, hlen⟩ hf2 fun j u hj hpj hu => hleast j u hj hpj ?_ hu
    have hd3 : ¬ (d : Int) ≤ ((2 * c + 2 : Nat) : Int) := hnle
    unfold par at hpj
    omega)
end Go.Proofs.Ytcagnabglppenaa.Hq
namespace Go.Proofs.Ytcagnabglppenaa.Hq
open Go Go.RowKit Go.Vc Go.Proofs.Ytcagnabglppenaa.Fs Go.Proofs.Ytcagnabglppenaa.Px Go.Proofs.Ytcagnabglppenaa.Hl

structure HeapO (W : World) (B m : Nat) (sl : Value) (l : List Item) : Prop where
  c : HeapC W B m sl l
  ord : HeapL leI l
  wf : ∀ x ∈ l, 0 ≤ x.2 ∧ x.2 < 18446744073709551616
def Key (l : List Item) (k : Pfx) : Prop := ∃ w, (k, w) ∈ l
/-- A heap at B that holds l; what it holds lies in S. -/
def HeapS (W : World) (B : Nat) (S : Nat → Prop) (l : List Item) : Prop := (∃ m sl, HeapO W B m sl l ∧ ∀ b, foot B m sl b → S b) ∧ ∀ b, S b → b < W.heap.size
/-- What it holds afterwards. -/
def grow (S : Nat → Prop) (W W' : World) : Nat → Prop := fun b => S b ∨ (W.heap.size ≤ b ∧ b < W'.heap.size)
theorem HeapS.fr {T S : Nat → Prop} {W W' : World} {B : Nat} {l : List Item} (h : HeapS W B S l) (hf : Fr T W W') (hd : ∀ b, S b → ¬ T b) : HeapS W' B S l := by
  obtain ⟨⟨m, sl, ho, hS⟩, hlt⟩ := h
  exact ⟨⟨m, sl, ⟨ho.c.fr hf (fun b hb _ => hd b (hS b hb)), ho.ord, ho.wf⟩, hS⟩, fun b hb => Nat.lt_of_lt_of_le (hlt b hb) hf.size⟩
theorem HeapS.below {S : Nat → Prop} {W W' : World} {B : Nat} {l : List Item} (h : HeapS W B S l) (hb : Below W.heap.size W W') : HeapS W' B S l :=
  h.fr (T := fun _ => False) (frOf hb) (fun _ _ h => h)
theorem made_gives {W : World} {B m : Nat} {sl : Value} (hB : W.heap[B]? = some (.cells (headC m sl) 156 (0, 0))) : Gives Try.prog 105 #[ptr B] W fun v W' => v = .bool true ∧ W' = W := F105_fn (by
  unfold F105
  obtain ⟨e, he⟩ := t118
  obtain ⟨a, b, c, hf⟩ := t124
  refine nil_ptr_neq he ⟨_, rfl, ?_⟩
  refine Join.use fun J hJ => If.pos rfl ?_
  refine Ld1.mk hB (u := ordV) rfl ?_
  refine nil_fn_neq hf (.inr rfl) ⟨_, rfl, ?_⟩
  rw [hJ]
  exact ⟨rfl, rfl⟩)
theorem made_nil {W : World} : Gives Try.prog 105 #[.pointer none] W fun v W' => v = .bool false ∧ W' = W := F105_fn (by
  unfold F105
  obtain ⟨e, he⟩ := t118
  refine nil_ptr_neq he ⟨_, rfl, ?_⟩
  refine Join.use fun J hJ => If.neg rfl ?_
  rw [hJ]
  exact ⟨rfl, rfl⟩)
theorem new_gives {W : World} : Gives Try.prog 78 #[ordV] W fun v W' => ∃ B, v = ptr B ∧ HeapS W' B (grow (fun _ => False) W W') [] ∧ Below W.heap.size W W' ∧ W.heap.size ≤ B := F78_fn (by
  unfold F78
  obtain ⟨a, b, c, hf⟩ := t124
  refine nil_fn_eql hf (.inr rfl) ⟨_, rfl, ?_⟩
  refine If.neg rfl ?_
  refine NewM.mk fun m W1 hm hme hsz1 hb1 => ?_
  refine ⟨⟨rfl, by decide, rfl, by decide, trivial⟩, ?_⟩
  refine NewA.mk fun B W2 hB hBe hsz2 hb2 => ?_
  have hB' : W2.heap[B]? = some (.cells (headC m (.slice none 0 0)) 156 (0, 0)) := hB
  have s1 := hb1.size
  refine ⟨B, rfl, ⟨⟨m, .slice none 0 0, ⟨⟨⟨fun _ => none, ⟨hB', ⟨#[], 0, belowAt hb2 hm, by simp, by simp, by simp⟩, SlR.nil _ _⟩, fun k i => by simp⟩, by decide⟩, fun i x y _ h => by simp at h, fun x hx => by cases hx⟩, ?_⟩, ?_⟩, hb1.trans (hb2.mono s1), by omega⟩
  · rintro b (rfl | rfl | h)
    · exact .inr ⟨by omega, by omega⟩
    · exact .inr ⟨by omega, by omega⟩
    · cases h
  · rintro b (h | ⟨_, h⟩)
    · exact h.elim
    · exact h)
theorem len_gives {W : World} {B : Nat} {S : Nat → Prop} {l : List Item} (h : HeapS W B S l) : Gives Try.prog 85 #[ptr B] W fun v W' => v = .int .i64 (l.length : Int) ∧ W' = W := F85_fn (by
  unfold F85
  obtain ⟨⟨m, sl, ho, _⟩, _⟩ := h
  obtain ⟨⟨f, hg, _⟩, _⟩ := ho.c
  refine CallK.mk (made_gives hg.hB) ?_
  rintro _ _ ⟨rfl, rfl⟩
  refine ⟨_, rfl, If.neg rfl ?_⟩
  obtain ⟨a, c, hsl⟩ := hg.hs.shape
  exact Ld1.ad hg.hB (u := sl) rfl ⟨a, l.length, c, hsl, rfl, rfl⟩)
theorem len_nil {W : World} : Gives Try.prog 85 #[.pointer none] W fun v W' => v = .int .i64 0 ∧ W' = W := F85_fn (by
  unfold F85
  refine CallK.mk made_nil ?_
  rintro _ _ ⟨rfl, rfl⟩
  exact ⟨_, rfl, If.pos rfl ⟨rfl, rfl⟩⟩)
theorem least_gives {W : World} {B : Nat} {S : Nat → Prop} {l : List Item} (h : HeapS W B S l) : Gives Try.prog 111 #[ptr B] W fun v W' => Below W.heap.size W W' ∧
    ((l = [] ∧ v = .tuple #[.agg zeroP.toArray, .int .u64 0, .bool false]) ∨ ∃ x, x ∈ l ∧ (∀ y ∈ l, leI x y) ∧ v = .tuple #[.agg (encP x.1).toArray, .int .u64 x.2, .bool true]) := F111_fn (by
  unfold F111
  refine NewA.mk fun b2 W1 h2 hb2 hsz1 hbl1 => NewA.mk fun b5 W2 h5 hb5 hsz2 hbl2 => ?_
  have hB : Below W.heap.size W W2 := hbl1.trans (hbl2.mono hbl1.size)
  have h22 := belowAt hbl2 h2
  have hlt2 := heap_lt h22
  have hh := h.below hB
  obtain ⟨⟨m, sl, ho, _⟩, _⟩ := hh
  obtain ⟨⟨f, hg, _⟩, _⟩ := ho.c
  refine CallK.mk (made_gives hg.hB) ?_
  rintro _ W3 ⟨rfl, e3⟩
  obtain rfl := e3.symm
  refine ⟨_, rfl, Join.use fun J hJ => If.neg rfl ?_⟩
  obtain ⟨a, c, hsl⟩ := hg.hs.shape
  refine Ld1.ad hg.hB (u := sl) rfl ⟨a, l.length, c, hsl, ?_⟩
  show J ((l.length : Int) == 0) _
  rw [hJ]
  have h2lt : ∀ b, foot B m sl b → b ≠ b2 := fun b hb e => by
    have h1 := h.2
    subst e
    obtain ⟨⟨m', sl', ho', hS'⟩, _⟩ := h
    have := ho'.c
    obtain ⟨⟨f', hg', _⟩, _⟩ := this
    have hd := hg'.below hB
    have e1 : headC m' sl' = headC m sl := by have := hd.hB.symm.trans hg.hB; simpa using this
    have e2 : m' = m ∧ sl' = sl := by simpa [headC] using e1
    obtain ⟨rfl, rfl⟩ := e2
    have := h1 _ (hS' _ hb)
    omega
  refine If.beq (fun he => ?_) fun hne => ?_
  · refine LdNC.mk h5 (cs := zeroP) rfl rfl ?_
    refine StV.to h22 (v := .agg zeroP.toArray) rfl (by decide) rfl (cs := zeroP.toArray) rfl fun W4 h4 hsz4 hf4 => ?_
    refine LdNC.mk h4 (cs := zeroP) rfl rfl ?_
    exact ⟨((frOf (S := fun b => W.heap.size ≤ b) hB).trans' hf4 fun b hb _ => by omega).bel, .inl ⟨List.eq_nil_of_length_eq_zero (by omega), rfl⟩⟩
  have hl : 0 < l.length := by omega
  obtain ⟨g, cap, cur, rfl, hgc, hc1, hc2, hc3, hc4⟩ := SlR.own hg.hs hl
  have hx : l[0]? = some l[0] := List.getElem?_eq_getElem hl
  generalize l[0] = x at hx
  have hrow := row_get encC_len hc4 hx
  simp only [Nat.zero_mul, List.drop_zero] at hrow
  have hcell : ∀ j u, (encC x)[j]? = some u → cur[j]? = some u := fun j u hj => by
    rw [← hrow] at hj
    have : j < 13 := by have := (List.getElem?_eq_some_iff.1 hj).1; simp at this; omega
    rw [List.getElem?_take_of_lt this] at hj
    simpa using hj
  have hrow12 : (cur.toList.drop 0).take 12 = encP x.1 := by
    have := congrArg (List.take 12) hrow
    rw [List.take_take] at this
    rw [List.drop_zero]
    exact this
  refine Ld1.ad hg.hB rfl ⟨_, _, _, rfl, ?_⟩
  refine IdxS.mk (j := 0) rfl hl ?_
  refine LdNC.ad hgc (cs := encP x.1) rfl hrow12 ?_
  refine Ld1.ad hg.hB rfl ⟨_, _, _, rfl, ?_⟩
  refine IdxS.mk (j := 0) rfl hl ?_
  rw [add_at]
  refine Ld1.ad hgc (hcell 12 _ rfl) ⟨_, rfl, ?_⟩
  intro W4 hb4
  refine StV.to (belowAt hb4 h22) (v := .agg (encP x.1).toArray) rfl (by decide) rfl (cs := (encP x.1).toArray) rfl fun W5 h55 hsz5 hf5 => ?_
  have hB5 := hf5.at (h2lt B (.inl rfl)) (belowAt hb4 hg.hB)
  have hg5 := hf5.at (h2lt g (.inr (.inr rfl))) (belowAt hb4 hgc)
  refine StL.ad hB5 rfl ?_
  refine StL.ad hg5 (hcell 12 _ rfl) ?_
  refine LdNC.mk h55 (cs := encP x.1) rfl rfl ?_
  refine ⟨(((frOf (S := fun b => W.heap.size ≤ b) hB).trans (frOf hb4)).trans' hf5 fun b hb _ => by omega).bel, .inr ⟨x, List.mem_of_getElem? hx, fun y hy => ?_, rfl⟩⟩
  obtain ⟨i, hi⟩ := List.getElem?_of_mem hy
  exact ho.ord.least leI_tr leI_rf hx i y hi)
theorem lookC {W : World} {m : Nat} {l : List Item} {f : Pfx → Option Nat} (hm : MapR W m (fun a : Pfx => Value.agg (encP a).toArray) (fun i : Nat => Value.int .i64 (i : Int)) f) (hmt : MapsTo f l) (k : Pfx) {K : Value → Prop}
    (hin : ∀ (i : Nat) (w : Int), l[i]? = some (k, w) → K (.tuple #[.int .i64 (i : Int), .bool true])) (hout : ¬ Key l k → K (.tuple #[.int .i64 0, .bool false])) :
    RunR Try.prog (Instr.lookup 153 (.map (some m)) (.agg (encP k).toArray) true) W K := by
  refine RunR.mk (u := .tuple #[((f k).map (fun i : Nat => Value.int .i64 (i : Int))).getD (.int .i64 0), .bool (f k).isSome]) (fun W' hb => (hm.of_heap (hb.block m hm.lt)).lookup keyOK_P t153 z3 k) ?_
  cases hf : f k with
  | some i => obtain ⟨w, hw⟩ := (hmt k i).1 hf; exact hin i w hw
  | none =>
    refine hout ?_
    rintro ⟨w, hw⟩
    obtain ⟨i, hi⟩ := List.getElem?_of_mem hw
    have := (hmt k i).2 ⟨w, hi⟩
    rw [hf] at this; cases this
theorem get_gives {W : World} {B : Nat} {S : Nat → Prop} {l : List Item} (h : HeapS W B S l) (k : Pfx) : Gives Try.prog 77 #[ptr B, .agg (encP k).toArray] W fun v W' => Below W.heap.size W W' ∧
    ((¬ Key l k ∧ v = .tuple #[.int .u64 0, .bool false]) ∨ ∃ w, (k, w) ∈ l ∧ v = .tuple #[.int .u64 w, .bool true]) := F77_fn (by
  unfold F77
  refine NewA.mk fun b3 W1 h3 hb3 hsz1 hbl1 => ?_
  have hh := h.below hbl1
  obtain ⟨⟨m, sl, ho, _⟩, _⟩ := hh
  obtain ⟨⟨f, hg, hmt⟩, _⟩ := ho.c
  refine CallK.mk (made_gives hg.hB) ?_
  rintro _ W2 ⟨rfl, e2⟩
  obtain rfl := e2.symm
  refine ⟨_, rfl, If.neg rfl ?_⟩
  refine Ld1.ad hg.hB rfl ?_
  refine LdNC.mk h3 (cs := encP k) rfl rfl ?_
  refine lookC hg.hm hmt k (fun i w hi => ?_) fun hn => ?_
  · refine ⟨_, _, rfl, _, rfl, _, rfl, fun W3 hb3' => If.neg rfl ?_⟩
    have hil := (List.getElem?_eq_some_iff.1 hi).1
    obtain ⟨g, cap, cur, rfl, hgc, hc1, hc2, hc3, hc4⟩ := SlR.own hg.hs hil
    have hrow := row_get encC_len hc4 hi
    refine Ld1.ad (belowAt hb3' hg.hB) rfl ⟨_, _, _, rfl, ?_⟩
    refine IdxS.mk rfl hil ?_
    rw [add_at]
    have hcell : cur[0 + i * 13 + 12]? = some (.int .u64 w) := by
      have : ((cur.toList.drop (i * 13)).take 13)[12]? = some (.int .u64 w) := by rw [hrow]; rfl
      rw [List.getElem?_take_of_lt (by decide), List.getElem?_drop] at this
      simpa using this
    exact Ld1.ad (belowAt hb3' hgc) hcell ⟨_, rfl, hbl1.trans (hb3'.mono hbl1.size), .inr ⟨w, List.mem_of_getElem? hi, rfl⟩⟩
  · exact ⟨_, _, rfl, _, rfl, _, rfl, fun W3 hb3' => If.pos rfl ⟨hbl1.trans (hb3'.mono hbl1.size), .inl ⟨hn, rfl⟩⟩⟩)
end Go.Proofs.Ytcagnabglppenaa.Hq
namespace Go.Proofs.Ytcagnabglppenaa.Hq
open Go Go.RowKit Go.Vc Go.Proofs.Ytcagnabglppenaa.Fs Go.Proofs.Ytcagnabglppenaa.Px Go.Proofs.Ytcagnabglppenaa.Hl

theorem MapsTo.push {f : Pfx → Option Nat} {l : List Item} (h : MapsTo f l) {x : Item} (hn : ¬ Key l x.1) : MapsTo (upd f x.1 (some l.length)) (l ++ [x]) := by
  intro k n
  by_cases hk : k = x.1
  · subst hk
    rw [upd_same]
    constructor
    · intro e; cases e; exact ⟨x.2, by simp⟩
    · rintro ⟨w, hw⟩
      by_cases hlt : n < l.length
      · rw [List.getElem?_append_left hlt] at hw
        exact absurd ⟨w, List.mem_of_getElem? hw⟩ hn
      · have := (List.getElem?_eq_some_iff.1 hw).1
        simp at this
        congr 1; omega
  · rw [upd_other _ _ hk, h k n]
    constructor
    · rintro ⟨w, hw⟩; exact ⟨w, by rw [List.getElem?_append_left (List.getElem?_eq_some_iff.1 hw).1]; exact hw⟩
    · rintro ⟨w, hw⟩
      by_cases hlt : n < l.length
      · rw [List.getElem?_append_left hlt] at hw; exact ⟨w, hw⟩
      · rw [List.getElem?_append_right (by omega)] at hw
        have hlen := (List.getElem?_eq_some_iff.1 hw).1
        have : n - l.length = 0 := by simp at hlen; omega
        rw [this] at hw
        simp at hw
        exact absurd (congrArg Prod.fst hw).symm hk
theorem alm_push {l : List Item} (h : HeapL leI l) (x : Item) : Alm leI (l ++ [x]) l.length := by
  refine ⟨fun i u v hi hil _ hu hv => ?_, fun i u v _ hi hp hu _ => ?_⟩
  · have hlen := (List.getElem?_eq_some_iff.1 hu).1
    simp at hlen
    have := par_lt hi
    rw [List.getElem?_append_left (by omega)] at hu hv
    exact h i u v hi hu hv
  · have hlen := (List.getElem?_eq_some_iff.1 hu).1
    have := par_lt hi
    simp at hlen
    omega
theorem add_gives {W : World} {B : Nat} {S : Nat → Prop} {l : List Item} (h : HeapS W B S l) (k : Pfx) (w : Int) (hw : 0 ≤ w ∧ w < 18446744073709551616) (hlen : l.length + 1 < 1099511627776) :
    Gives Try.prog 75 #[ptr B, .agg (encP k).toArray, .int .u64 w] W fun v W' => (Key l k ∧ v = .int .i64 10 ∧ Below W.heap.size W W') ∨
      (¬ Key l k ∧ v = .int .i64 0 ∧ (∃ l', HeapS W' B (Hq.grow S W W') l' ∧ l'.Perm (l ++ [(k, w)])) ∧ Fr S W W') := F75_fn (by
  unfold F75
  refine NewA.mk fun b4 W1 h4 hb4 hsz1 hbl1 => ?_
  have hh := h.below hbl1
  obtain ⟨⟨m, sl, ho, hS⟩, hSlt⟩ := hh
  have hSlt0 := h.2
  obtain ⟨⟨f, hg, hmt⟩, _⟩ := ho.c
  obtain ⟨hBm, hgo⟩ := hg.apart
  refine CallK.mk (made_gives hg.hB) ?_
  rintro _ Wx ⟨rfl, ex⟩
  obtain rfl := ex.symm
  refine ⟨_, rfl, If.neg rfl ?_⟩
  refine Ld1.ad hg.hB rfl ?_
  refine LdNC.mk h4 (cs := encP k) rfl rfl ?_
  refine lookC hg.hm hmt k (fun i u hi => ?_) fun hn => ?_
  · exact ⟨_, _, rfl, _, rfl, _, rfl, fun W3 hb3 => If.pos rfl (.inl ⟨⟨u, List.mem_of_getElem? hi⟩, rfl, hbl1.trans (hb3.mono hbl1.size)⟩)⟩
  refine ⟨_, _, rfl, _, rfl, _, rfl, fun W3 hb3 => If.neg rfl ?_⟩
  have hg3 := hg.below hb3
  obtain ⟨a, c, hsl⟩ := hg.hs.shape
  refine Ld1.ad hg3.hB (u := sl) rfl ⟨a, l.length, c, hsl, ?_⟩
  have h43 := belowAt hb3 h4
  refine LdNC.mk h43 (cs := encP k) rfl rfl ?_
  intro W4 hb4'
  refine ⟨⟨rfl, by decide, rfl, by decide, trivial⟩, ?_⟩
  refine NewSC.mk (cs := (encC (k, w)).toArray) ⟨rfl, by decide, trivial⟩ (by kernel_rfl) fun q W2 hq hqe hsz2 hb2 => ?_
  have hb12 : Below W1.heap.size W1 W2 := (hb3.trans (hb4'.mono hb3.size)).trans (hb2.mono (by have := hb3.size; have := hb4'.size; omega))
  have hg2 := hg.below hb12
  have h42 := belowAt hb12 h4
  refine StL.ad hg2.hB (by rw [← hsl]; rfl) ?_
  obtain ⟨inf, hi1, hi2, hi3, hi4⟩ := i158
  obtain ⟨v', W5, hrun, hs3, hgr, hown⟩ := hg2.hs.append (P := Try.prog) (ty := 154) (ys := [(k, w)]) (c := 1) (a := ⟨q, 0, none⟩) encC_len encC_one t154 hi1 hi2 hi3 hi4 rfl (by decide) (cells_row (by simpa using hq)) (by simp; omega) (by simp [maxLen]; omega)
  rw [hsl] at hrun
  refine ⟨v', W5, hrun, ?_⟩
  obtain ⟨a', c', hv'⟩ := hs3.shape
  refine AsL.mk hv' ?_
  have hown' : ∀ g, v'.ownBlock = some g → g ≠ B ∧ g ≠ m ∧ g ≠ b4 := fun g hgv => by
    have hSB := hSlt0 B (hS B (.inl rfl))
    have hSm := hSlt0 m (hS m (.inr (.inl rfl)))
    rcases hown with e | e
    · rw [e] at hgv
      have hSg := hSlt0 g (hS g (.inr (.inr hgv)))
      exact ⟨(hgo g hgv).1, (hgo g hgv).2, by omega⟩
    · rw [e] at hgv; cases hgv
      have := heap_lt hg2.hB; have := hg2.hm.lt; have := heap_lt h42; omega
  have hB5 : W5.heap[B]? = some (.cells (headC m sl) 156 (0, 0)) := (hgr.block B (heap_lt hg2.hB) (fun e => (hgo B e.symm).1 rfl)).trans hg2.hB
  have hm5 := hg2.hm.of_heap (hgr.block m hg2.hm.lt (fun e => (hgo m e.symm).2 rfl))
  have h45 : W5.heap[b4]? = some (.cells (encP k).toArray 65 (0, 0)) := (hgr.block b4 (heap_lt h42) (fun e => by have := hSlt0 _ (hS b4 (.inr (.inr e.symm))); omega)).trans h42
  rw [← hv']
  have hv1 : v'.cells = #[v'] ∧ oneC v' = true := by rw [hv']; exact ⟨rfl, rfl⟩
  refine StV.ad1 hB5 hv1.1 (show 0 + 2 < 3 by decide) hv1.2 fun W6 hB6 hsz6 hf6 => ?_
  have hBne : B ≠ b4 := by have := hSlt0 B (hS B (.inl rfl)); omega
  have hmne : m ≠ b4 := by have := hSlt0 m (hS m (.inr (.inl rfl))); omega
  have hB6' : W6.heap[B]? = some (.cells (headC m v') 156 (0, 0)) := hB6
  have hm6 := hm5.of_heap (hf6.blk m hm5.lt (Ne.symm hBm))
  have hs6 : SlR W6 158 13 encC v' (l ++ [(k, w)]) := hs3.of_heap fun g hgv => hf6.blk g (hs3.lt hgv) (hown' g hgv).1
  have h46 := hf6.at (Ne.symm hBne) h45
  refine Ld1.ad hB6' (u := v') rfl ⟨a', _, c', hv', ?_⟩
  refine Ld1.ad hB6' rfl ?_
  refine LdNC.mk h46 (cs := encP k) rfl rfl ?_
  intro W7 hb7
  have hwr : IntKind.i64.wrap ((((l ++ [(k, w)]).length : Nat) : Int) - 1) = (l.length : Int) := by
    rw [wrap_i64] <;> simp <;> omega
  rw [hwr]
  have hm7 := hm6.of_heap (hb7.block m hm6.lt)
  have hB7 := belowAt hb7 hB6'
  obtain ⟨o, ho1, ho2⟩ := hm7.update keyOK_P t153 k l.length
  refine ⟨_, ho1, ?_⟩
  have hG8 : HeapG (World.setBlk W7 m o) B m v' (l ++ [(k, w)]) (upd f k (some l.length)) :=
    ⟨(setBlk_other hBm).trans hB7, ho2, (hs6.of_heap fun g hgv => hb7.block g (hs6.lt hgv)).of_heap fun g hgv => setBlk_other (hown' g hgv).2.1⟩
  have hC8 : HeapC (World.setBlk W7 m o) B m v' (l ++ [(k, w)]) := ⟨⟨_, hG8, hmt.push (x := (k, w)) hn⟩, by simpa using hlen⟩
  refine CallK.mk (up_gives hC8 (i := l.length) (by simp) (alm_push ho.ord (k, w))) ?_
  rintro _ W9 ⟨rfl, ⟨l', hC9, hp, hD⟩, hf9⟩
  have z12 := hb12.size; have z5 := hgr.size; have z7 := hb7.size; have z9 := hf9.size
  rw [setBlk_size] at z9
  refine .inr ⟨hn, rfl, ⟨l', ⟨⟨m, v', ⟨hC9, ?_, ?_⟩, ?_⟩, ?_⟩, hp⟩, ?_⟩
  · refine hD.heap fun i x y hi hpi hx _ => ?_
    have h1 := (List.getElem?_eq_some_iff.1 hx).1
    have h2 := hp.length_eq
    have := par_lt hi
    simp at h2
    omega
  · intro x hx
    have := hp.mem_iff.1 hx
    simp at this
    rcases this with h | rfl
    · exact ho.wf x h
    · exact hw
  · intro b hb
    have hlt9 : b < W9.heap.size := Nat.lt_of_lt_of_le (hG8.foot_lt hb) (by rw [setBlk_size]; omega)
    rcases hb with rfl | rfl | hb
    · exact .inl (hS _ (.inl rfl))
    · exact .inl (hS _ (.inr (.inl rfl)))
    · rcases hown with e | e
      · rw [e] at hb; exact .inl (hS b (.inr (.inr hb)))
      · rw [e] at hb; cases hb
        exact .inr ⟨by omega, hlt9⟩
  · rintro b (hb | hb)
    · have := hSlt0 b hb; omega
    · exact hb.2
  · have f5 : Fr S W W5 := ((frOf hbl1).trans (frOf hb12)).trans (Fr.grown hgr fun g hgv => hS g (.inr (.inr hgv)))
    have f6 : Fr S W W6 := f5.trans (hf6.mono fun b _ e => by subst e; exact hS _ (.inl rfl))
    have f8 : Fr S W (World.setBlk W7 m o) := (f6.trans (frOf hb7)).trans (Fr.setBlk (hS m (.inr (.inl rfl))) _ _)
    refine f8.trans' hf9 fun b hb hlt => ?_
    rcases hb with rfl | rfl | hb
    · exact hS _ (.inl rfl)
    · exact hS _ (.inr (.inl rfl))
    · rcases hown with e | e
      · rw [e] at hb; exact hS b (.inr (.inr hb))
      · rw [e] at hb; cases hb; omega)
end Go.Proofs.Ytcagnabglppenaa.Hq
namespace Go.Proofs.Ytcagnabglppenaa.Hq
open Go Go.RowKit Go.Vc Go.Proofs.Ytcagnabglppenaa.Fs Go.Proofs.Ytcagnabglppenaa.Px Go.Proofs.Ytcagnabglppenaa.Hl

theorem HeapG.set {W : World} {B m g cap : Nat} {l : List Item} {f : Pfx → Option Nat} (h : HeapG W B m (.slice (some ⟨g, 0, none⟩) l.length cap) l f) {cur : Array Value} {i : Nat} (x : Item) (hi : i < l.length)
    (_ : W.heap[g]? = some (.cells cur 158 (0, 0))) (hc1 : l.length ≤ cap) (hc2 : cap ≤ maxLen) (hc3 : cur.size = cap * 13) (hc4 : cur.toList.take (l.length * 13) = l.flatMap encC) {W' : World}
    (hg' : W'.heap[g]? = some (.cells (cur.toList.take (i * 13) ++ encC x ++ cur.toList.drop (i * 13 + 13)).toArray 158 (0, 0))) (hf : Fr (fun b => b = g) W W') : HeapG W' B m (.slice (some ⟨g, 0, none⟩) l.length cap) (l.set i x) f := by
  obtain ⟨hBm, hgo⟩ := h.apart
  obtain ⟨hgB, hgm⟩ := hgo g rfl
  obtain ⟨hs1, hs2⟩ := row_set encC_len x hc1 hc3 hc4 hi
  refine ⟨hf.at (Ne.symm hgB) h.hB, h.hm.of_heap (hf.blk m h.hm.lt (Ne.symm hgm)), ?_⟩
  have := SlR.mk (l := l.set i x) encC_len hg' (by simpa using hc1) hc2 hs1 hs2
  rw [List.length_set] at this
  exact this
theorem MapsTo.set {f : Pfx → Option Nat} {l : List Item} (h : MapsTo f l) {i : Nat} {k : Pfx} {u v : Int} (hi : l[i]? = some (k, u)) : MapsTo f (l.set i (k, v)) := by
  intro k' n
  rw [h k' n]
  have hil := (List.getElem?_eq_some_iff.1 hi).1
  by_cases hn : i = n
  · subst hn
    simp [hil]
    constructor
    · rintro ⟨w, h⟩
      have h1 : l[i]? = some (k', w) := by rw [List.getElem?_eq_getElem hil]; simpa using h
      rw [hi] at h1; cases h1; rfl
    · intro h; subst h; exact ⟨u, by have := (List.getElem?_eq_some_iff.1 hi).2; exact this⟩
  · rw [List.getElem?_set_ne hn]
theorem raise_gives {W : World} {B : Nat} {S : Nat → Prop} {l : List Item} (h : HeapS W B S l) (k : Pfx) (w : Int) (hw : 0 ≤ w ∧ w < 18446744073709551616) :
    Gives Try.prog 84 #[ptr B, .agg (encP k).toArray, .int .u64 w] W fun v W' => (¬ Key l k ∧ v = .int .i64 4 ∧ Below W.heap.size W W') ∨ ∃ (i : Nat) (u : Int), l[i]? = some (k, u) ∧
      ((u + w ≥ 18446744073709551616 ∧ v = .int .i64 13 ∧ Below W.heap.size W W') ∨ (u + w < 18446744073709551616 ∧ v = .int .i64 0 ∧ (∃ l', HeapS W' B (Hq.grow S W W') l' ∧ l'.Perm (l.set i (k, u + w))) ∧ Fr S W W')) := F84_fn (by
  unfold F84
  refine NewA.mk fun b4 Wa h4 hb4 hsza hbla => ?_
  have hh := h.below hbla
  obtain ⟨⟨m, sl, ho, hS⟩, hSlt⟩ := hh
  have hSlt0 := h.2
  obtain ⟨⟨f, hg, hmt⟩, hlen⟩ := ho.c
  refine CallK.mk (made_gives hg.hB) ?_
  rintro _ Wx ⟨rfl, ex⟩
  obtain rfl := ex.symm
  refine ⟨_, rfl, If.neg rfl ?_⟩
  refine Ld1.ad hg.hB rfl ?_
  refine LdNC.mk h4 (cs := encP k) rfl rfl ?_
  refine lookC hg.hm hmt k (fun i u hi => ?_) fun hn => ⟨_, _, rfl, _, rfl, _, rfl, fun W3 hb3 => If.pos rfl (.inl ⟨hn, rfl, hbla.trans (hb3.mono hbla.size)⟩)⟩
  refine ⟨_, _, rfl, _, rfl, _, rfl, fun Wb hbb => If.neg rfl ?_⟩
  have hil := (List.getElem?_eq_some_iff.1 hi).1
  replace hg := hg.below hbb
  have hb0 : Below W.heap.size W Wb := hbla.trans (hbb.mono hbla.size)
  obtain ⟨g, cap, cur, rfl, hgc, hc1, hc2, hc3, hc4⟩ := SlR.own hg.hs hil
  have hwf := ho.wf _ (List.mem_of_getElem? hi)
  simp only at hwf
  have hrow := row_get encC_len hc4 hi
  have hcell : cur[0 + i * 13 + 12]? = some (.int .u64 u) := by
    have : ((cur.toList.drop (i * 13)).take 13)[12]? = some (.int .u64 u) := by rw [hrow]; rfl
    rw [List.getElem?_take_of_lt (by decide), List.getElem?_drop] at this
    simpa using this
  have hcell0 : (cur.toList.drop (i * 13)).take 12 = encP k := by
    have := congrArg (List.take 12) hrow
    rw [List.take_take] at this
    exact this
  refine Ld1.ad hg.hB rfl (AsL.mk rfl ?_)
  refine IdxS.mk rfl hil ?_
  rw [add_at]
  refine Ld1.ad hgc hcell (AsI.mk ?_)
  rw [wrap_u64 (x := 18446744073709551615 - u) (by omega) (by omega)]
  refine If.dec (fun hov => .inr ⟨i, u, hi, .inl ⟨by omega, rfl, hb0⟩⟩) fun hok => ?_
  refine Ld1.ad hg.hB rfl (AsL.mk rfl ?_)
  refine IdxS.mk rfl hil ?_
  rw [add_at]
  refine Ld1.ad hgc hcell (AsI.mk ?_)
  refine IdxS.mk rfl hil ?_
  rw [add_at]
  rw [wrap_u64 (x := u + w) (by omega) (by omega)]
  have hlt : i * 13 + 13 ≤ cur.size := by rw [hc3]; omega
  have hcs : (cur.toList.take (0 + i * 13 + 12) ++ [Value.int .u64 (u + w)] ++ cur.toList.drop (0 + i * 13 + 12 + 1)).toArray = (cur.toList.take (i * 13) ++ encC (k, u + w) ++ cur.toList.drop (i * 13 + 13)).toArray := by
    rw [Nat.zero_add]
    have e1 : cur.toList.take (i * 13 + 12) = cur.toList.take (i * 13) ++ encP k := by
      rw [List.take_add, hcell0]
    rw [e1]
    simp [encC]
  refine StV.ad hgc (v := .int .u64 (u + w)) rfl (by omega) rfl hcs fun W2 hg2 hsz2 hf2 => ?_
  have hG2 := hg.set (k, u + w) hil hgc hc1 hc2 hc3 hc4 hg2 hf2
  have hC2 : HeapC W2 B m (.slice (some ⟨g, 0, none⟩) l.length cap) (l.set i (k, u + w)) := ⟨⟨f, hG2, hmt.set hi⟩, by simpa using hlen⟩
  have hD : AlmD leI (l.set i (k, u + w)) i := by
    have hle : leI (k, u) (k, u + w) := by rw [leI_same]; omega
    have h0 := ho.ord.almD leI_tr i
    refine ⟨fun j x y hj hp hx hy => ?_, fun j x y hj hj0 hp hx hy => ?_⟩
    · rw [List.getElem?_set_ne (Ne.symm hp)] at hy
      by_cases hji : j = i
      · subst hji
        simp [hil] at hx
        subst hx
        exact leI_tr _ _ _ (ho.ord j _ y hj hi hy) hle
      · rw [List.getElem?_set_ne (Ne.symm hji)] at hx
        exact ho.ord j x y hj hx hy
    · have h1 := par_lt hj
      have h2 := par_lt hj0
      rw [List.getElem?_set_ne (by omega)] at hx hy
      exact h0.2 j x y hj hj0 hp hx hy
  refine CallK.mk (down_gives hC2 (i := i) (by simpa using hil) hD) ?_
  rintro _ W3 ⟨rfl, ⟨l', hC3, hp, hH⟩, hf3⟩
  have hf2' : Fr (foot B m (.slice (some ⟨g, 0, none⟩) l.length cap)) W W2 := (frOf hb0).trans (hf2.mono fun b _ e => by subst e; exact .inr (.inr rfl))
  have hfr := hf2'.trans hf3
  refine .inr ⟨i, u, hi, .inr ⟨by omega, rfl, ⟨l', ⟨⟨m, _, ⟨hC3, hH, fun x hx => ?_⟩, fun b hb => .inl (hS b hb)⟩, ?_⟩, hp⟩, hfr.mono fun b _ hb => hS b hb⟩⟩
  · have := hp.mem_iff.1 hx
    rcases List.mem_or_eq_of_mem_set this with h | rfl
    · exact ho.wf x h
    · simp only; omega
  · rintro b (hb | hb)
    · exact Nat.lt_of_lt_of_le (hSlt0 b hb) hfr.size
    · exact hb.2)
theorem perm_last {l l1 : List Item} {i : Nat} {a : Item} (hi : l[i]? = some a) (hp : (l1 ++ [a]).Perm l) : l1.Perm (l.eraseIdx i) := by
  have hil := (List.getElem?_eq_some_iff.1 hi).1
  have h1 : (a :: l.eraseIdx i).Perm l := by
    rw [List.eraseIdx_eq_take_drop_succ]
    have e : l = l.take i ++ a :: l.drop (i + 1) := by
      conv => lhs; rw [← List.take_append_drop i l]
      rw [List.drop_eq_getElem_cons hil, (List.getElem?_eq_some_iff.1 hi).2]
    conv => rhs; rw [e]
    exact List.perm_middle.symm
  have h2 : (a :: l1).Perm (a :: l.eraseIdx i) := ((List.perm_append_singleton a l1).symm.trans hp).trans h1.symm
  exact (List.perm_cons a).1 h2
theorem drop_gives {W : World} {B : Nat} {S : Nat → Prop} {l : List Item} (h : HeapS W B S l) (k : Pfx) :
    Gives Try.prog 112 #[ptr B, .agg (encP k).toArray] W fun v W' => (¬ Key l k ∧ v = .int .i64 4 ∧ Below W.heap.size W W') ∨ ∃ (i : Nat) (u : Int), l[i]? = some (k, u) ∧
      v = .int .i64 0 ∧ (∃ l', HeapS W' B (Hq.grow S W W') l' ∧ l'.Perm (l.eraseIdx i)) ∧ Fr S W W' := F112_fn (by
  unfold F112
  refine NewA.mk fun b3 Wa h3 hb3 hsza hbla => ?_
  have hh := h.below hbla
  obtain ⟨⟨m, sl, ho, hS⟩, hSlt⟩ := hh
  have hSlt0 := h.2
  obtain ⟨⟨f, hg, hmt⟩, hlen⟩ := ho.c
  refine CallK.mk (made_gives hg.hB) ?_
  rintro _ Wx ⟨rfl, ex⟩
  obtain rfl := ex.symm
  refine ⟨_, rfl, If.neg rfl ?_⟩
  refine Ld1.ad hg.hB rfl ?_
  refine LdNC.mk h3 (cs := encP k) rfl rfl ?_
  refine lookC hg.hm hmt k (fun i u hi => ?_) fun hn => ⟨_, _, rfl, _, rfl, _, rfl, fun W3 hb3' => If.pos rfl (.inl ⟨hn, rfl, hbla.trans (hb3'.mono hbla.size)⟩)⟩
  refine ⟨_, _, rfl, _, rfl, _, rfl, fun Wb hbb => If.neg rfl ?_⟩
  replace hg := hg.below hbb
  have h3b := belowAt hbb h3
  have hb0 : Below W.heap.size W Wb := hbla.trans (hbb.mono hbla.size)
  have h3S : ∀ b, foot B m sl b → b ≠ b3 := fun b hb e => by have := hSlt0 b (hS b hb); omega
  have hil := (List.getElem?_eq_some_iff.1 hi).1
  obtain ⟨g, cap, cur, rfl, hgc, hc1, hc2, hc3, hc4⟩ := SlR.own hg.hs hil
  obtain ⟨hBm, hgo⟩ := hg.apart
  obtain ⟨hgB, hgm⟩ := hgo g rfl
  refine Ld1.ad hg.hB rfl (AsL.mk rfl ?_)
  have hwr : IntKind.i64.wrap ((l.length : Int) - 1) = ((l.length - 1 : Nat) : Int) := by rw [wrap_i64] <;> omega
  rw [hwr]
  have hb : l[l.length - 1]? = some (l[l.length - 1]'(by omega)) := List.getElem?_eq_getElem (by omega)
  generalize (l[l.length - 1]'(by omega)) = b at hb
  -- the swap
  refine CallK.mk (swap_gives hg hi hb) ?_
  rintro _ W2 ⟨rfl, hG2, hf2⟩
  have h32 := hf2.at (fun h => h3S b3 h rfl) h3b
  have hmt2 := hmt.swap hi hb
  obtain ⟨a2, c2, hsl2⟩ : ∃ a2 c2, Value.slice (some ⟨g, 0, none⟩) l.length cap = .slice a2 l.length c2 := ⟨_, _, rfl⟩
  refine Ld1.ad hG2.hB rfl (AsL.mk rfl ?_)
  refine SlB.mk 0 (l.length - 1) rfl rfl (by omega) (by omega) ?_
  have hv : (Value.slice (if cap = 0 then some (⟨g, 0, none⟩ : Addr) else Option.map (fun z => Addr.add z (0 * 13)) (some ⟨g, 0, none⟩)) (l.length - 1 - 0) (cap - 0)) = .slice (some ⟨g, 0, none⟩) (l.length - 1) cap := by
    have : Addr.add ⟨g, 0, none⟩ (0 * 13) = ⟨g, 0, none⟩ := by rw [add_at]
    split <;> simp [this]
  rw [hv]
  refine StV.ad1 hG2.hB (v := .slice (some ⟨g, 0, none⟩) (l.length - 1) cap) rfl (show 0 + 2 < 3 by decide) rfl fun W3 hB3 hsz3 hf3 => ?_
  have hB3' : W3.heap[B]? = some (.cells (headC m (.slice (some ⟨g, 0, none⟩) (l.length - 1) cap)) 156 (0, 0)) := hB3
  refine Ld1.ad hB3' rfl ?_
  have h33 := hf3.at (fun e => h3S B (.inl rfl) e.symm) h32
  intro W3' hb3'
  refine LdNC.mk (belowAt hb3' h33) (cs := encP k) rfl rfl ?_
  have hm3 := (hG2.hm.of_heap (hf3.blk m hG2.hm.lt (Ne.symm hBm))).of_heap (hb3'.block m (by have := hf3.size; have := hG2.hm.lt; omega))
  obtain ⟨o, ho1, ho2⟩ := hm3.delete (P := Try.prog) (kt' := 3) (ty := 0) keyOK_P t153 k
  refine ⟨_, _, ho1, ?_⟩
  -- what lies there now
  have hsl : (swapL l i (l.length - 1) (k, u) b).length = l.length := swapL_len
  have hs4 : SlR (World.setBlk W3' m o) 158 13 encC (.slice (some ⟨g, 0, none⟩) (l.length - 1) cap) ((swapL l i (l.length - 1) (k, u) b).take (l.length - 1)) := by
    have h1 : SlR W2 158 13 encC (.slice (some ⟨g, 0, none⟩) (swapL l i (l.length - 1) (k, u) b).length cap) (swapL l i (l.length - 1) (k, u) b) := by rw [hsl]; exact hG2.hs
    have h2 := h1.less encC_len (k := l.length - 1) (by rw [hsl]; omega)
    refine h2.of_heap fun g' hg' => ?_
    cases hg'
    have hglt := hG2.hs.lt (g := g) rfl
    exact ((setBlk_other hgm).trans (hb3'.block g (by have := hf3.size; omega))).trans (hf3.blk g hglt hgB)
  have hlast : (swapL l i (l.length - 1) (k, u) b) = (swapL l i (l.length - 1) (k, u) b).take (l.length - 1) ++ [(k, u)] := by
    have hd : (swapL l i (l.length - 1) (k, u) b).drop (l.length - 1) = [(k, u)] := by
      apply List.ext_getElem?
      intro n
      rw [List.getElem?_drop]
      cases n with
      | zero => rw [Nat.add_zero, swapL_j (by omega)]; rfl
      | succ n => rw [List.getElem?_eq_none (by rw [hsl]; omega)]; simp
    have := List.take_append_drop (l.length - 1) (swapL l i (l.length - 1) (k, u) b)
    rw [hd] at this
    exact this.symm
  have hperm : ((swapL l i (l.length - 1) (k, u) b).take (l.length - 1)).Perm (l.eraseIdx i) := perm_last hi (by rw [← hlast]; exact swapL_perm hi hb)
  have hget : ∀ n, n < l.length - 1 → n ≠ i → ((swapL l i (l.length - 1) (k, u) b).take (l.length - 1))[n]? = l[n]? := fun n hn hni => by
    rw [List.getElem?_take_of_lt hn, swapL_o hni (by omega)]
  have hmt4 : MapsTo (upd (upd (upd f b.1 (some i)) k (some (l.length - 1))) k none) ((swapL l i (l.length - 1) (k, u) b).take (l.length - 1)) := by
    intro k' n
    by_cases hk : k' = k
    · subst hk
      rw [upd_same]
      constructor
      · intro h; cases h
      · rintro ⟨w, hw⟩
        have hn : n < l.length - 1 := by
          have := (List.getElem?_eq_some_iff.1 hw).1
          simp [hsl] at this; omega
        rw [List.getElem?_take_of_lt hn] at hw
        have h1 := (hmt2 k' n).2 ⟨w, hw⟩
        rw [upd_same] at h1
        have := Option.some.inj h1
        omega
    · rw [upd_other _ _ hk, hmt2 k' n]
      constructor
      · rintro ⟨w, hw⟩
        refine ⟨w, ?_⟩
        have hn : n < l.length - 1 := by
          have h1 := (List.getElem?_eq_some_iff.1 hw).1
          rw [hsl] at h1
          refine Classical.byContradiction fun h2 => ?_
          have : n = l.length - 1 := by omega
          subst this
          rw [swapL_j (by omega)] at hw
          cases hw; exact hk rfl
        rw [List.getElem?_take_of_lt hn]; exact hw
      · rintro ⟨w, hw⟩
        have hn : n < l.length - 1 := by
          have := (List.getElem?_eq_some_iff.1 hw).1
          simp [hsl] at this; omega
        rw [List.getElem?_take_of_lt hn] at hw
        exact ⟨w, hw⟩
  have hlen1 : ((swapL l i (l.length - 1) (k, u) b).take (l.length - 1)).length = l.length - 1 := by simp [hsl]
  have hC4 : HeapC (World.setBlk W3' m o) B m (.slice (some ⟨g, 0, none⟩) (l.length - 1) cap) ((swapL l i (l.length - 1) (k, u) b).take (l.length - 1)) :=
    ⟨⟨_, ⟨(setBlk_other hBm).trans (belowAt hb3' hB3'), ho2, by unfold SlR at hs4 ⊢; exact hs4⟩, hmt4⟩, by rw [hlen1]; omega⟩
  have hf4 : Fr (foot B m (.slice (some ⟨g, 0, none⟩) l.length cap)) W (World.setBlk W3' m o) := ((((frOf hb0).trans hf2).trans (hf3.mono fun b _ e => by subst e; exact .inl rfl)).trans (frOf hb3')).trans (Fr.setBlk (.inr (.inl rfl)) _ _)
  have hfoot : ∀ b, foot B m (.slice (some ⟨g, 0, none⟩) (l.length - 1) cap) b → foot B m (.slice (some ⟨g, 0, none⟩) l.length cap) b := fun b hb => hb
  have hwf : ∀ x ∈ l.eraseIdx i, 0 ≤ x.2 ∧ x.2 < 18446744073709551616 := fun x hx => ho.wf x (List.mem_of_mem_eraseIdx hx)
  have fin : ∀ W5 l', HeapC W5 B m (.slice (some ⟨g, 0, none⟩) (l.length - 1) cap) l' → HeapL leI l' → l'.Perm (l.eraseIdx i) → Fr (foot B m (.slice (some ⟨g, 0, none⟩) l.length cap)) W W5 →
      (∃ l', HeapS W5 B (Hq.grow S W W5) l' ∧ l'.Perm (l.eraseIdx i)) ∧ Fr S W W5 := fun W5 l' h1 h2 h3 h4 =>
    ⟨⟨l', ⟨⟨m, _, ⟨h1, h2, fun x hx => hwf x (h3.mem_iff.1 hx)⟩, fun b hb => .inl (hS b (hfoot b hb))⟩, fun b hb => hb.elim (fun h => Nat.lt_of_lt_of_le (hSlt0 b h) h4.size) (fun h => h.2)⟩, h3⟩, h4.mono fun b _ hb => hS b hb⟩
  refine Join.use fun J hJ => ?_
  rw [hJ]
  refine If.dec (fun hlt => ?_) fun hnlt => ?_
  · have hin : i < l.length - 1 := by omega
    have hbi : ((swapL l i (l.length - 1) (k, u) b).take (l.length - 1))[i]? = some b := by rw [List.getElem?_take_of_lt hin, swapL_i hil (by omega)]
    have halm : Alm leI ((swapL l i (l.length - 1) (k, u) b).take (l.length - 1)) i := by
      have hlt1 : ∀ n x, ((swapL l i (l.length - 1) (k, u) b).take (l.length - 1))[n]? = some x → n < l.length - 1 := fun n x h => by
        have := (List.getElem?_eq_some_iff.1 h).1; rw [hlen1] at this; exact this
      refine ⟨fun j x y hj hji hpi hx hy => ?_, fun j x y hi0 hj hpj hx hy => ?_⟩
      · rw [hget j (hlt1 j x hx) hji] at hx
        rw [hget _ (hlt1 _ y hy) hpi] at hy
        exact ho.ord j x y hj hx hy
      · have h1 := par_lt hi0
        have h2 := par_lt hj
        rw [hget j (hlt1 j x hx) (by omega)] at hx
        rw [hget _ (hlt1 _ y hy) (by omega)] at hy
        exact leI_tr _ _ _ (ho.ord i _ y hi0 hi hy) (ho.ord j x _ hj hx (by rw [hpj]; exact hi))
    refine CallK.mk (up_gives hC4 (i := i) (by rw [hlen1]; exact hin) halm) ?_
    rintro _ W5 ⟨rfl, ⟨l5, hC5, hp5, hD5⟩, hf5⟩
    refine CallK.mk (down_gives hC5 (i := i) (by rw [hp5.length_eq, hlen1]; exact hin) hD5) ?_
    rintro _ W6 ⟨rfl, ⟨l6, hC6, hp6, hH6⟩, hf6⟩
    exact .inr ⟨i, u, hi, rfl, fin W6 l6 hC6 hH6 ((hp6.trans hp5).trans hperm) ((hf4.trans hf5).trans hf6)⟩
  · have hin : i = l.length - 1 := by omega
    refine .inr ⟨i, u, hi, rfl, fin _ _ hC4 (fun j x y hj hx hy => ?_) hperm hf4⟩
    have hjl : j < l.length - 1 := by
      have := (List.getElem?_eq_some_iff.1 hx).1; rw [hlen1] at this; exact this
    have := par_lt hj
    rw [hget j hjl (by omega)] at hx
    rw [hget _ (by omega) (by omega)] at hy
    exact ho.ord j x y hj hx hy)
end Go.Proofs.Ytcagnabglppenaa.Hq
namespace Go.Proofs.Ytcagnabglppenaa.Hq
open Go Go.RowKit Go.Vc Go.Proofs.Ytcagnabglppenaa.Fs Go.Proofs.Ytcagnabglppenaa.Px Go.Proofs.Ytcagnabglppenaa.Hl Go.Proofs.Ytcagnabglppenaa.SrSp

abbrev argI (x : Item) : Array Value := #[.agg (encC x).toArray]
abbrev argKW (x : Item) : Array Value := #[.agg (encP x.1).toArray, .int .u64 x.2]
theorem take_step {α : Type} {l : List α} {j : Nat} {x : α} (h : l[j]? = some x) : l = l.take j ++ x :: l.drop (j + 1) ∧ l.take j ++ [x] = l.take (j + 1) := by
  obtain ⟨hlt, rfl⟩ := List.getElem?_eq_some_iff.1 h
  exact ⟨by rw [List.getElem_cons_drop, List.take_append_drop], by rw [List.take_append_getElem hlt]⟩
/-- slices.Values: hands each, in order. -/
theorem values_gives {L q1 N0 : Nat} {W : World} {l : List Item} {v : Value} {t : TypeId} {I : List Item → (Nat → Prop) → World → Prop} {Stop : World → Prop} {S : Nat → Prop} (H : It Try.prog L argI l N0 I Stop) (hI : I [] S W)
    (hq : W.heap[q1]? = some (.cells #[v] t (0, 0))) (hs : SlR W 158 13 encC v l) (_ : ¬ S q1) (hSv : ∀ g, v.ownBlock = some g → ¬ S g) (hlen : l.length < 1099511627776) :
    Gives Try.prog 135 #[.func (.yield L) #[] #[], .pointer (some ⟨q1, 0, none⟩)] W fun _ W' => (∃ S', I l S' W') ∨ Stop W' := F135_fn (by
  unfold F135
  obtain ⟨a, c, hv⟩ := hs.shape
  refine Ld1.mk hq (u := v) rfl ⟨a, l.length, c, hv, ?_⟩
  refine Lp.i1 (fun x W' => ∃ (j : Nat) (S' : Nat → Prop), x = (j : Int) ∧ j ≤ l.length ∧ I (l.take j) S' W' ∧ SlR W' 158 13 encC v l ∧ ∀ g, v.ownBlock = some g → ¬ S' g) (fun x _ => ((l.length : Int) - x).toNat)
    ⟨0, S, rfl, by omega, by simpa using hI, hs, hSv⟩ ?_
  rintro _ W1 k ⟨j, S1, rfl, hj, hI1, hs1, hS1⟩ hk
  refine ⟨_, rfl, If.dec (fun hlt => ?_) fun hge => ?_⟩
  · have hjl : j < l.length := by omega
    have hx : l[j]? = some l[j] := List.getElem?_eq_getElem hjl
    generalize l[j] = x at hx
    obtain ⟨e1, e2⟩ := take_step hx
    obtain ⟨g, cap, cur, hv2, hg, hc1, hc2, hc3, hc4⟩ := SlR.own hs1 hjl
    obtain rfl : a = some ⟨g, 0, none⟩ := by rw [hv2] at hv; cases hv; rfl
    refine IdxS.mk rfl hjl ?_
    refine LdNC.ad hg (cs := encC x) rfl (by rw [Nat.zero_add]; exact row_get encC_len hc4 hx) ?_
    refine NewA.mk fun b4 W2 h4 hb4 hsz2 hb2 => ?_
    refine StV.to h4 (v := .agg (encC x).toArray) rfl (by decide) rfl (cs := (encC x).toArray) rfl fun W3 h43 hsz3 hf3 => ?_
    refine LdNC.mk h43 (cs := encC x) rfl rfl ?_
    have hI3 : I (l.take j) S1 W3 := H.stab _ _ _ _ hI1 (((frOf hb2).trans' hf3 (fun b hb hlt => by omega)))
    have hs3 : SlR W3 158 13 encC v l := hs1.of_heap fun g' hg' => by
      rw [hv2] at hg'; cases hg'
      have := heap_lt hg
      rw [hf3.blk g (by omega) (by omega), hb2.block g this]
    refine H.round _ x _ S1 W3 _ e1 hI3 (fun S' W' hI' hgrow hf' => ?_) (fun W' hst => ?_)
    · refine ⟨_, rfl, If.neg rfl ?_⟩
      rw [succ_w (a := j) (by omega)]
      refine hk _ _ ⟨j + 1, S', rfl, by omega, by rw [← e2]; exact hI', hs3.of_heap fun g' hg' => hf'.blk g' (hs3.lt hg') (hS1 g' hg'), fun g' hg' hS' => ?_⟩ (by omega)
      rcases hgrow g' hS' with h | h
      · exact hS1 g' hg' h
      · have := hs3.lt hg'; omega
    · exact ⟨_, rfl, If.pos rfl (.inr hst)⟩
  · have : l.take j = l := List.take_of_length_le (by omega)
    exact .inl ⟨S1, this ▸ hI1⟩)
/-- slices.Collect of slices.Values: a copy. -/
theorem collect_gives {q1 : Nat} {W : World} {l : List Item} {v : Value} {t : TypeId} (hq : W.heap[q1]? = some (.cells #[v] t (0, 0))) (hs : SlR W 158 13 encC v l) (hlen : l.length < 1099511627776) :
    Gives Try.prog 133 #[.func (.func 135) #[] #[.pointer (some ⟨q1, 0, none⟩)]] W fun u W' => SlR W' 158 13 encC u l ∧ Below W.heap.size W W' ∧ ∀ g, u.ownBlock = some g → W.heap.size ≤ g := F133_fn (by
  unfold F133
  refine CallK.mk (Q := fun u W' => SlR W' 158 13 encC u l ∧ Below W.heap.size W W' ∧ ∀ g, u.ownBlock = some g → W.heap.size ≤ g) (F151_fn ?_) ?_
  · unfold F151
    refine NewA.mk fun b2 W1 h2 hb2 hsz1 hbl1 => ?_
    have hq1lt := heap_lt hq
    refine ⟨135, #[], #[.pointer (some ⟨q1, 0, none⟩)], rfl, c135.get, fun rc hrc Y => ?_⟩
    generalize hWs : (W1.alloc (.deferred (some []))).alloc (rc .ready none) = Ws
    have hblS : Below W1.heap.size W1 Ws := by rw [← hWs]; exact ((Below.refl _ W1).alloc (Nat.le_refl _) _).alloc (by simp) _
    have hWD : Ws.heap[W1.heap.size]? = some (.deferred (some [])) := by rw [← hWs]; exact alloc_other alloc_same
    have hWL : Ws.heap[W1.heap.size + 1]? = some (rc .ready none) := by
      rw [← hWs]
      have := alloc_same (W := W1.alloc (.deferred (some []))) (o := rc .ready none)
      rwa [alloc_size] at this
    have hWsz : Ws.heap.size = W1.heap.size + 2 := by rw [← hWs, alloc_size, alloc_size]
    let D := W1.heap.size
    let I : List Item → (Nat → Prop) → World → Prop := fun pre S W' => ∃ u, S = (fun b => b = b2 ∨ b = W1.heap.size ∨ b = W1.heap.size + 1 ∨ u.ownBlock = some b) ∧ W'.heap[b2]? = some (.cells #[u] 154 (0, 0)) ∧ SlR W' 158 13 encC u pre ∧
      (∀ g, u.ownBlock = some g → W1.heap.size + 2 ≤ g) ∧ W'.heap[W1.heap.size]? = some (.deferred (some [])) ∧ W'.heap[W1.heap.size + 1]? = some (rc .ready none) ∧ Fr (fun b => W.heap.size ≤ b) W W' ∧ Ws.heap.size ≤ W'.heap.size
    have hb2e : b2 = W.heap.size := hb2
    have Hit : It Try.prog (W1.heap.size + 1) argI l Ws.heap.size I (fun _ => False) := by
      refine ⟨?_, ?_, ?_, ?_⟩
      · rintro pre x post S W2 k hl ⟨u, rfl, hu, hsu, hown, hD, hL, hfr, hsz⟩ hk _
        refine Y _ _ _ rfl hL ?_
        refine NewA.mk fun b5 W3 h5 hb5 hsz3 hb3 => ?_
        refine StV.to h5 (v := .agg (encC x).toArray) rfl (by decide) rfl (cs := (encC x).toArray) rfl fun W4 h54 hsz4 hf4 => ?_
        have f24 : Fr (fun b => W2.heap.size ≤ b) W2 W4 := (frOf hb3).trans (hf4.mono fun b _ e => by omega)
        have hb2lt := heap_lt hu
        have hLlt := heap_lt hL
        have hDlt := heap_lt hD
        have hL4 := f24.at (by omega) hL
        refine ⟨hL4, ?_⟩
        generalize hW5 : World.setBlk W4 (W1.heap.size + 1) (rc .busy none) = W5
        have f45 : Fr (fun b => b = W1.heap.size + 1) W4 W5 := by rw [← hW5]; exact Fr.setBlk (S := fun b => b = W1.heap.size + 1) rfl _ _
        have hL5 : W5.heap[W1.heap.size + 1]? = some (rc .busy none) := by rw [← hW5]; exact setBlk_same hL4
        have hu5 := f45.at (by omega) (f24.at (by omega) hu)
        have hD5 := f45.at (by omega) (f24.at (by omega) hD)
        have h55 := f45.at (by omega) h54
        have hsu5 : SlR W5 158 13 encC u pre := hsu.of_heap fun g hg => by
          have h1 := hsu.lt hg
          have h2 := hown g hg
          rw [f45.blk g (by have := f24.size; omega) (by omega), f24.blk g h1 (by omega)]
        obtain ⟨a, c, hue⟩ := hsu5.shape
        refine Ld1.mk hu5 (u := u) rfl ⟨a, pre.length, c, hue, ?_⟩
        refine LdNC.mk h55 (cs := encC x) rfl rfl ?_
        refine NewSC.mk (cs := (encC x).toArray) ⟨rfl, by decide, trivial⟩ (by kernel_rfl) fun q W6 hq6 hqe hsz6 hb6 => ?_
        obtain ⟨inf, hi1, hi2, hi3, hi4⟩ := i158
        have hsu6 : SlR W6 158 13 encC u pre := hsu5.of_heap fun g hg => hb6.block g (hsu5.lt hg)
        have hpl : pre.length + 1 ≤ l.length := by rw [hl]; simp
        obtain ⟨v', W7, hrun, hs7, hgr, hown7⟩ := hsu6.append (P := Try.prog) (ty := 154) (ys := [x]) (c := 1) (a := ⟨q, 0, none⟩) encC_len encC_one t154 hi1 hi2 hi3 hi4 rfl (by decide) (cells_row (by simpa using hq6)) (by simp; omega) (by simp [maxLen]; omega)
        rw [hue] at hrun
        refine ⟨v', W7, hrun, ?_⟩
        obtain ⟨a', c', hv'⟩ := hs7.shape
        refine AsL.mk hv' ?_
        have s5 := f45.size; have s4 := f24.size; have s6 := hb6.size; have s7 := hgr.size
        have hown7' : ∀ g, v'.ownBlock = some g → W1.heap.size + 2 ≤ g ∧ (u.ownBlock = some g ∨ W2.heap.size ≤ g) := fun g hg => by
          rcases hown7 with e | e
          · rw [e] at hg; exact ⟨hown g hg, .inl hg⟩
          · rw [e] at hg; cases hg; exact ⟨by omega, .inr (by omega)⟩
        have hb2ne : ∀ g, u.ownBlock = some g → g ≠ b2 := fun g hg e => by have := hown g hg; omega
        have hu7 : W7.heap[b2]? = some (.cells #[u] 154 (0, 0)) := (hgr.block b2 (by omega) (fun e => hb2ne b2 e.symm rfl)).trans (belowAt hb6 hu5)
        have hL7 : W7.heap[W1.heap.size + 1]? = _ := (hgr.block _ (by omega) (fun e => by have := hown _ e.symm; omega)).trans (belowAt hb6 hL5)
        have hD7 : W7.heap[W1.heap.size]? = _ := (hgr.block _ (by omega) (fun e => by have := hown _ e.symm; omega)).trans (belowAt hb6 hD5)
        rw [← hv']
        have hv1 : v'.cells = #[v'] ∧ oneC v' = true := by rw [hv']; exact ⟨rfl, rfl⟩
        refine StV.to1 hu7 hv1.1 (show 0 < 1 by decide) hv1.2 fun W8 hu8 hsz8 hf8 => ?_
        have hL8 := hf8.at (by omega) hL7
        refine ⟨hL8, ?_⟩
        generalize hW9 : World.setBlk W8 (W1.heap.size + 1) (rc .ready none) = W9
        have f89 : Fr (fun b => b = W1.heap.size + 1) W8 W9 := by rw [← hW9]; exact Fr.setBlk (S := fun b => b = W1.heap.size + 1) rfl _ _
        have hL9 : W9.heap[W1.heap.size + 1]? = some (rc .ready none) := by rw [← hW9]; exact setBlk_same hL8
        have hu9 := f89.at (by omega) hu8
        have hD9 := f89.at (by omega) (hf8.at (by omega) hD7)
        have s9 := f89.size
        have hs9 : SlR W9 158 13 encC v' (pre ++ [x]) := hs7.of_heap fun g hg => by
          have h1 := hs7.lt hg
          have h2 := hown7' g hg
          rw [f89.blk g (by omega) (by omega), hf8.blk g h1 (by omega)]
        have f29 : Fr (fun b => b = b2 ∨ b = W1.heap.size ∨ b = W1.heap.size + 1 ∨ u.ownBlock = some b) W2 W9 :=
          ((((((frOf hb3).trans' hf4 (fun b hb hlt => by omega)).trans' f45 (fun b hb _ => .inr (.inr (.inl hb)))).trans (frOf hb6)).trans' (Fr.grown (S := fun b => u.ownBlock = some b) hgr (fun k hk => hk)) (fun b hb _ => .inr (.inr (.inr hb)))).trans' hf8 (fun b hb _ => .inl hb)).trans' f89 (fun b hb _ => .inr (.inr (.inl hb)))
        refine hk (fun b => b = b2 ∨ b = W1.heap.size ∨ b = W1.heap.size + 1 ∨ v'.ownBlock = some b) W9 ⟨v', rfl, hu9, hs9, fun g hg => (hown7' g hg).1, hD9, hL9, hfr.trans' f29 (fun b _ hlt => ?_), by have := f29.size; omega⟩ ?_ f29
        · rename_i hb
          rcases hb with rfl | rfl | rfl | hb
          · omega
          · omega
          · omega
          · have := hown b hb; omega
        · rintro b (rfl | rfl | rfl | hb)
          · exact .inl (.inl rfl)
          · exact .inl (.inr (.inl rfl))
          · exact .inl (.inr (.inr (.inl rfl)))
          · rcases (hown7' b hb).2 with h | h
            · exact .inl (.inr (.inr (.inr h)))
            · exact .inr h
      · rintro pre S W2 W3 ⟨u, rfl, hu, hsu, hown, hD, hL, hfr, hsz⟩ hf
        exact ⟨u, rfl, hf.at (fun h => h.2 (.inl rfl)) hu, hsu.of_heap (fun g hg => hf.blk g (hsu.lt hg) (fun h => h.2 (.inr (.inr (.inr hg))))), hown, hf.at (fun h => h.2 (.inr (.inl rfl))) hD, hf.at (fun h => h.2 (.inr (.inr (.inl rfl)))) hL,
          hfr.trans' hf (fun b hb hlt => by have := hb.1; omega), by have := hf.size; omega⟩
      · rintro pre S W2 b ⟨u, rfl, hu, hsu, hown, hD, hL, hfr, hsz⟩ hb
        rcases hb with rfl | rfl | rfl | hb
        · exact heap_lt hu
        · exact heap_lt hD
        · exact heap_lt hL
        · exact hsu.lt hb
      · rintro pre S W2 ⟨u, rfl, hu, hsu, hown, hD, hL, hfr, hsz⟩
        exact hsz
    have hWS : Below W.heap.size W Ws := hbl1.trans (hblS.mono hbl1.size)
    have hI0 : I [] (fun b => b = b2 ∨ b = W1.heap.size ∨ b = W1.heap.size + 1 ∨ (Value.slice none 0 0).ownBlock = some b) Ws :=
      ⟨.slice none 0 0, rfl, belowAt hblS h2, SlR.nil _ _, fun g hg => (by cases hg), hWD, hWL, frOf hWS, Nat.le_refl _⟩
    refine (values_gives Hit hI0 (belowAt hWS hq) (hs.of_heap fun g hg => hWS.block g (hs.lt hg)) ?_ ?_ hlen).mono ?_
    · rintro (h | h | h | h)
      · omega
      · omega
      · omega
      · cases h
    · rintro g hg (h | h | h | h)
      · have := hs.lt hg; omega
      · have := hs.lt hg; omega
      · have := hs.lt hg; omega
      · cases h
    · rintro _ W' (⟨S', u, rfl, hu, hsu, hown, hD, hL, hfr, hsz⟩ | h)
      · refine ⟨.ready, none, nofun, hL, .inl ⟨rfl, ?_⟩⟩
        obtain ⟨a, c, hue⟩ := hsu.shape
        have hLlt := heap_lt hL
        refine Ld1.mk (u := u) ((setBlk_other (by omega)).trans hu) rfl ⟨a, l.length, c, hue, (setBlk_other (by omega)).trans hD, ?_⟩
        rw [← hue]
        refine ⟨hsu.of_heap fun g hg => ?_, ?_, fun g hg => by have := hown g hg; omega⟩
        · have := hown g hg
          rw [setBlk_other (by omega), setBlk_other (by omega)]
        · exact ((hfr.trans (Fr.setBlk (S := fun b => W.heap.size ≤ b) (by omega) _ _)).trans (Fr.setBlk (S := fun b => W.heap.size ≤ b) (by omega) _ _)).bel
      · exact h.elim
  · rintro u W' ⟨h1, h2, h3⟩
    obtain ⟨a, c, rfl⟩ := h1.shape
    exact ⟨_, _, _, rfl, h1, h2, h3⟩)
/-- slices.SortFunc of no element. -/
theorem sort_nil {a : Option Addr} {c : Nat} {fv : Value} {W : World} : Gives Try.prog 134 #[.slice a 0 c, fv] W fun v W' => v = .tuple #[] ∧ W' = W := F134_fn (by
  unfold F134
  refine CallK.mk (Sx.len_gives 0 (by omega) W) ?_
  rintro _ W0 ⟨e, n, rfl, _⟩
  obtain rfl := e.symm
  refine ⟨_, rfl, ?_⟩
  refine CallK.mk (Q := fun v W' => v = .tuple #[] ∧ W' = W) (F152_fn ?_) ?_
  · unfold F152
    refine Lp.enc (fun s : Int × Bool × Int × Bool × Int => [.int .i64 s.1, .bool s.2.1, .int .i64 s.2.2.1, .bool s.2.2.2.1, .int .i64 s.2.2.2.2])
      (fun s t hst => by simp at hst; exact Prod.ext hst.1 (Prod.ext hst.2.1 (Prod.ext hst.2.2.1 (Prod.ext hst.2.2.2.1 hst.2.2.2.2))))
      (fun s W' => s.2.2.1 = 0 ∧ s.2.2.2.2 = 0 ∧ W' = W) (fun _ _ => 0) ((n : Int), true, 0, true, 0) rfl ⟨rfl, rfl, rfl⟩ ?_
    rintro ⟨lm, b11, _, b10, _⟩ W1 k ⟨rfl, rfl, rfl⟩ hk
    refine AsI.mk (AsB.mk (AsI.mk (AsB.mk (AsI.mk (Join.use fun J hJ => If.pos rfl ?_)))))
    refine CallK.mk (Q := fun v W' => v = .tuple #[] ∧ W' = W1) (F167_fn ?_) ?_
    · unfold F167
      exact Lp.i1 (fun x W' => x = 1 ∧ W' = W1) (fun _ _ => 0) ⟨rfl, rfl⟩ (by
        rintro _ W2 k2 ⟨rfl, rfl⟩ _
        exact ⟨_, rfl, If.neg rfl ⟨rfl, rfl⟩⟩)
    · rintro _ _ ⟨rfl, rfl⟩; exact ⟨rfl, rfl⟩
  · rintro _ _ ⟨rfl, rfl⟩; exact ⟨rfl, rfl⟩)
theorem le_leI (x y : Item) : Le cmpI x y ↔ leI x y := by
  unfold Le
  rw [cmpI_neg]
  exact ⟨fun h => Classical.byContradiction h, fun h k => k h⟩
theorem toI : TO cmpI := ⟨fun x y => by rw [le_leI, le_leI]; exact leI_tot x y, fun x y z => by rw [le_leI, le_leI, le_leI]; exact leI_tr x y z⟩
theorem sorted_gives {q1 B m : Nat} {sl : Value} {W : World} {l : List Item} {v : Value} {t : TypeId} (hB : W.heap[B]? = some (.cells (headC m sl) 156 (0, 0))) (hq : W.heap[q1]? = some (.cells #[v] t (0, 0))) (hs : SlR W 158 13 encC v l) (hlen : l.length < 1099511627776) :
    Gives Try.prog 114 #[.func (.func 135) #[] #[.pointer (some ⟨q1, 0, none⟩)], .func (.func 116) #[ptr B] #[]] W fun u W' => ∃ ls, ls.Perm l ∧ ls.Pairwise leI ∧ SlR W' 158 13 encC u ls ∧ Below W.heap.size W W' ∧ ∀ g, u.ownBlock = some g → W.heap.size ≤ g := F114_fn (by
  unfold F114
  refine CallK.mk (collect_gives hq hs hlen) ?_
  rintro u W1 ⟨hs1, hb1, hown⟩
  have hBlt := heap_lt hB
  rcases hs1.2 with ⟨rfl, hl0⟩ | ⟨g, cap, cur, rfl, _, hg, _⟩
  · refine ⟨_, _, _, rfl, ?_⟩
    refine CallK.mk sort_nil ?_
    rintro _ _ ⟨rfl, rfl⟩
    have : l = [] := List.eq_nil_of_length_eq_zero hl0
    subst this
    exact ⟨[], List.Perm.refl _, List.Pairwise.nil, hs1, hb1, hown⟩
  · refine ⟨_, _, _, rfl, ?_⟩
    have hgW := hown g rfl
    have hg1 := heap_lt hg
    have E : SE Try.prog encC 13 cmpI (.func (.func 116) #[ptr B] #[]) g W1.heap.size (fun W' => W'.heap[B]? = some (.cells (headC m sl) 156 (0, 0))) :=
      ⟨encC_len, fun _ => rfl, fun W2 x y hi => YieldK.func c116 (by simpa using cmp_gives hi x y) (fun _ _ h => h), fun W2 W3 hi hf => hf.at (by rintro (h | h) <;> omega) hi, hg1⟩
    have hS : SS encC 13 158 g W1.heap.size cap (fun W' => W'.heap[B]? = some (.cells (headC m sl) 156 (0, 0))) W1 l := ⟨belowAt hb1 hB, Nat.le_refl _, hs1⟩
    refine CallK.mk (sort_gives toI E hS hlen) ?_
    rintro _ W2 ⟨rfl, d, h2, hp, hf, hsrt⟩
    have hdl := hp.length_eq
    refine ⟨d, hp, List.pairwise_iff_getElem.2 fun i j hi hj hij => ?_, hdl ▸ h2.r, ?_, fun g' hg' => by cases hg'; exact hgW⟩
    · exact (le_leI _ _).1 (hsrt i j _ _ (Nat.zero_le _) hij (by omega) (List.getElem?_eq_getElem hi) (List.getElem?_eq_getElem hj))
    · exact ((frOf (S := fun b => W.heap.size ≤ b) hb1).trans' hf (fun b hb hlt => by have := hb1.size; rcases hb with h | h <;> omega)).bel)
/-- Two sorted lists of the same things. -/
theorem sorted_one : ∀ {l d : List Item}, l.Perm d → l.Pairwise leI → d.Pairwise leI → l = d
  | [], d, h, _, _ => by have := h.length_eq; exact (List.eq_nil_of_length_eq_zero this.symm).symm
  | x :: l, [], h, _, _ => by have := h.length_eq; simp at this
  | x :: l, y :: d, h, h1, h2 => by
    have e : x = y := by
      have hx : x ∈ y :: d := h.mem_iff.1 (by simp)
      have hy : y ∈ x :: l := h.mem_iff.2 (by simp)
      rcases List.mem_cons.1 hx with e | hx
      · exact e
      · rcases List.mem_cons.1 hy with e | hy
        · exact e.symm
        · exact leI_anti ((List.pairwise_cons.1 h1).1 y hy) ((List.pairwise_cons.1 h2).1 x hx)
    subst e
    rw [sorted_one ((List.perm_cons x).1 h) (List.pairwise_cons.1 h1).2 (List.pairwise_cons.1 h2).2]
/-- (*Heap).All: hands each thing and its weight, in order. -/
theorem all_gives {L f1 B N0 : Nat} {W : World} {l ls : List Item} {t : TypeId} {Sh : Nat → Prop} {I : List Item → (Nat → Prop) → World → Prop} {Stop : World → Prop} {S : Nat → Prop} (H : It Try.prog L argKW ls N0 I Stop) (hI : I [] S W)
    (hf1 : W.heap[f1]? = some (.cells #[ptr B] t (0, 0))) (hh : HeapS W B Sh l) (hp : ls.Perm l) (ho : ls.Pairwise leI) :
    Gives Try.prog 113 #[.func (.yield L) #[] #[], .pointer (some ⟨f1, 0, none⟩)] W fun _ W' => (∃ S', I ls S' W') ∨ Stop W' := F113_fn (by
  unfold F113
  obtain ⟨⟨m, sl, hO, _⟩, _⟩ := hh
  obtain ⟨⟨f, hg, _⟩, hlen⟩ := hO.c
  refine Ld1.mk hf1 (u := ptr B) rfl ⟨_, rfl, ?_⟩
  refine CallK.mk (made_gives hg.hB) ?_
  rintro _ W0 ⟨rfl, e⟩
  obtain rfl := e.symm
  refine ⟨_, rfl, If.neg rfl ?_⟩
  refine Ld1.mk hf1 (u := ptr B) rfl ⟨_, rfl, ?_⟩
  intro W2 hb2
  have hf2 := belowAt hb2 hf1
  have hg2 := hg.below hb2
  refine Ld1.mk hf2 (u := ptr B) rfl ⟨_, rfl, ?_⟩
  obtain ⟨a, c, hsl⟩ := hg2.hs.shape
  refine Ld1.ad hg2.hB (u := sl) rfl ⟨a, l.length, c, hsl, ?_⟩
  refine CallK.mk (Q := fun v W' => ∃ q, v = .func (.func 135) #[] #[.pointer (some ⟨q, 0, none⟩)] ∧ W'.heap[q]? = some (.cells #[.slice a l.length c] 154 (0, 0)) ∧ Below W2.heap.size W2 W') (F115_fn ?_) ?_
  · unfold F115
    exact NewA.mk fun q W' hq _ _ hb => ⟨q, rfl, hq, hb⟩
  rintro _ W3 ⟨q, rfl, hq, hb3⟩
  rw [← hsl] at hq
  refine StL.mk (belowAt hb3 hf2) rfl ?_
  have hg3 := hg2.below hb3
  refine CallK.mk (sorted_gives hg3.hB hq hg3.hs hlen) ?_
  rintro u W4 ⟨ls', hp', ho', hs4, hb4, hown⟩
  have : ls' = ls := sorted_one (hp'.trans hp.symm) ho' ho
  subst this
  have hll := hp.length_eq
  have hW4 : Below W.heap.size W W4 := (hb2.trans (hb3.mono hb2.size)).trans (hb4.mono (by have := hb2.size; have := hb3.size; omega))
  have hI4 := H.below hI hW4
  have hSu : ∀ g, u.ownBlock = some g → ¬ S g := fun g hg hS => by have := H.lt _ _ _ g hI hS; have := hown g hg; have := hb2.size; have := hb3.size; omega
  obtain ⟨a, c, hu⟩ := hs4.shape
  refine ⟨a, ls'.length, c, hu, ?_⟩
  refine Lp.i1 (fun x W' => ∃ (j : Nat) (S' : Nat → Prop), x = (j : Int) ∧ j ≤ ls'.length ∧ I (ls'.take j) S' W' ∧ SlR W' 158 13 encC u ls' ∧ ∀ g, u.ownBlock = some g → ¬ S' g) (fun x _ => ((ls'.length : Int) - x).toNat)
    ⟨0, S, rfl, by omega, by simpa using hI4, hs4, hSu⟩ ?_
  rintro _ W1 k ⟨j, S1, rfl, hj, hI1, hs1, hS1⟩ hk
  refine ⟨_, rfl, If.dec (fun hlt => ?_) fun hge => ?_⟩
  · have hjl : j < ls'.length := by omega
    have hx : ls'[j]? = some ls'[j] := List.getElem?_eq_getElem hjl
    generalize ls'[j] = x at hx
    obtain ⟨e1, e2⟩ := take_step hx
    obtain ⟨g, cap, cur, hv2, hg, hc1, hc2, hc3, hc4⟩ := SlR.own hs1 hjl
    obtain rfl : a = some ⟨g, 0, none⟩ := by rw [hv2] at hu; cases hu; rfl
    refine IdxS.mk rfl hjl ?_
    refine LdNC.ad hg (cs := encC x) rfl (by rw [Nat.zero_add]; exact row_get encC_len hc4 hx) ?_
    refine NewA.mk fun b4 W2 h4 hb4 hsz2 hb2 => ?_
    refine StV.to h4 (v := .agg (encC x).toArray) rfl (by decide) rfl (cs := (encC x).toArray) rfl fun W3 h43 hsz3 hf3 => ?_
    refine LdNC.mk h43 (cs := encP x.1) rfl rfl ?_
    refine Ld1.ad h43 (u := .int .u64 x.2) rfl ⟨_, rfl, ?_⟩
    have hI3 : I (ls'.take j) S1 W3 := H.stab _ _ _ _ hI1 (((frOf hb2).trans' hf3 (fun b hb hlt => by omega)))
    have hs3 : SlR W3 158 13 encC u ls' := hs1.of_heap fun g' hg' => by
      rw [hv2] at hg'; cases hg'
      have := heap_lt hg
      rw [hf3.blk g (by omega) (by omega), hb2.block g this]
    refine H.round _ x _ S1 W3 _ e1 hI3 (fun S' W' hI' hgrow hf' => ?_) (fun W' hst => ?_)
    · refine ⟨_, rfl, If.neg rfl ?_⟩
      rw [succ_w (a := j) (by omega)]
      refine hk _ _ ⟨j + 1, S', rfl, by omega, by rw [← e2]; exact hI', hs3.of_heap fun g' hg' => hf'.blk g' (hs3.lt hg') (hS1 g' hg'), fun g' hg' hS' => ?_⟩ (by omega)
      rcases hgrow g' hS' with h | h
      · exact hS1 g' hg' h
      · have := hs3.lt hg'; omega
    · exact ⟨_, rfl, If.pos rfl (.inr hst)⟩
  · have : ls'.take j = ls' := List.take_of_length_le (by omega)
    exact .inl ⟨S1, this ▸ hI1⟩)
end Go.Proofs.Ytcagnabglppenaa.Hq
namespace Go.Proofs.Ytcagnabglppenaa.Hq
open Go Go.RowKit Go.Vc Go.Proofs.Ytcagnabglppenaa.Fs Go.Proofs.Ytcagnabglppenaa.Px Go.Proofs.Ytcagnabglppenaa.Hl

def Uniq (l : List Item) : Prop := l.Pairwise fun x y => x.1 ≠ y.1
theorem Uniq.perm {l d : List Item} (h : Uniq l) (hp : l.Perm d) : Uniq d := hp.pairwise h fun h => Ne.symm h
theorem Uniq.idx {l : List Item} (h : Uniq l) {i j : Nat} {k : Pfx} {u v : Int} (hi : l[i]? = some (k, u)) (hj : l[j]? = some (k, v)) : i = j := by
  obtain ⟨hil, ei⟩ := List.getElem?_eq_some_iff.1 hi
  obtain ⟨hjl, ej⟩ := List.getElem?_eq_some_iff.1 hj
  rcases Nat.lt_trichotomy i j with hlt | he | hlt
  · have := List.pairwise_iff_getElem.1 h i j hil hjl hlt; rw [ei, ej] at this; exact absurd rfl this
  · exact he
  · have := List.pairwise_iff_getElem.1 h j i hjl hil hlt; rw [ei, ej] at this; exact absurd rfl this
theorem Uniq.val {l : List Item} (h : Uniq l) {k : Pfx} {u v : Int} (hi : (k, u) ∈ l) (hj : (k, v) ∈ l) : u = v := by
  obtain ⟨i, hi⟩ := List.getElem?_of_mem hi
  obtain ⟨j, hj⟩ := List.getElem?_of_mem hj
  have := h.idx hi hj
  subst this
  rw [hi] at hj
  cases hj; rfl
theorem key_perm {l d : List Item} (hp : l.Perm d) (k : Pfx) : Key l k ↔ Key d k := ⟨fun ⟨w, h⟩ => ⟨w, hp.mem_iff.1 h⟩, fun ⟨w, h⟩ => ⟨w, hp.mem_iff.2 h⟩⟩
theorem erase_perm {α : Type} {l : List α} {i : Nat} {x : α} (h : l[i]? = some x) : (x :: l.eraseIdx i).Perm l := by
  obtain ⟨e1, _⟩ := take_step h
  rw [List.eraseIdx_eq_take_drop_succ]
  exact List.perm_middle.symm.trans (e1 ▸ List.Perm.refl _)
theorem perm_erase {l d : List Item} (hp : l.Perm d) (hu : Uniq l) {i j : Nat} {k : Pfx} {u v : Int} (hi : l[i]? = some (k, u)) (hj : d[j]? = some (k, v)) : u = v ∧ (l.eraseIdx i).Perm (d.eraseIdx j) := by
  have e : u = v := hu.val (List.mem_of_getElem? hi) (hp.mem_iff.2 (List.mem_of_getElem? hj))
  subst e
  exact ⟨rfl, (List.perm_cons (k, u)).1 ((erase_perm hi).trans (hp.trans (erase_perm hj).symm))⟩
theorem set_perm {α : Type} {l : List α} {i : Nat} {x : α} (y : α) (h : l[i]? = some x) : (l.set i y).Perm (y :: l.eraseIdx i) := by
  have hlt := (List.getElem?_eq_some_iff.1 h).1
  have h1 : (l.set i y)[i]? = some y := by simp [hlt]
  have := (erase_perm h1).symm
  rwa [List.eraseIdx_set_eq] at this
theorem HeapS.uniq {W : World} {B : Nat} {S : Nat → Prop} {l : List Item} (h : HeapS W B S l) : Uniq l := by
  obtain ⟨⟨m, sl, ho, _⟩, _⟩ := h
  obtain ⟨⟨f, _, hm⟩, _⟩ := ho.c
  refine List.pairwise_iff_getElem.2 fun i j hi hj hij e => ?_
  have h1 := (hm l[i].1 i).2 ⟨l[i].2, List.getElem?_eq_getElem hi⟩
  have h2 := (hm l[i].1 j).2 ⟨l[j].2, by rw [e]; exact List.getElem?_eq_getElem hj⟩
  rw [h1] at h2
  have := Option.some.inj h2
  omega
theorem HeapS.len {W : World} {B : Nat} {S : Nat → Prop} {l : List Item} (h : HeapS W B S l) : l.length < 1099511627776 := by
  obtain ⟨⟨m, sl, ho, _⟩, _⟩ := h; exact ho.c.len
theorem HeapS.wf {W : World} {B : Nat} {S : Nat → Prop} {l : List Item} (h : HeapS W B S l) : ∀ x ∈ l, 0 ≤ x.2 ∧ x.2 < 18446744073709551616 := by
  obtain ⟨⟨m, sl, ho, _⟩, _⟩ := h; exact ho.wf
theorem HeapS.head {W : World} {B : Nat} {S : Nat → Prop} {l : List Item} (h : HeapS W B S l) : S B := by
  obtain ⟨⟨m, sl, ho, hS⟩, _⟩ := h; exact hS B (.inl rfl)
end Go.Proofs.Ytcagnabglppenaa.Hq
