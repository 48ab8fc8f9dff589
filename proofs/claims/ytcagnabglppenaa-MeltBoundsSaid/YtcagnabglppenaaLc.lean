/- Sorting a row of items in place: what the printed sort functions do, step by step. -/
import Derived.Test.YtcagnabglppenaaLb
namespace Go.Vc
open Go Go.RowKit

/-! ### Swaps within a range -/
section sw
variable {α : Type}
def swp (l : List α) (i j : Nat) (a b : α) : List α := (l.set i b).set j a
theorem swp_len {l : List α} {i j : Nat} {a b : α} : (swp l i j a b).length = l.length := by simp [swp]
theorem swp_j {l : List α} {i j : Nat} {a b : α} (hj : j < l.length) : (swp l i j a b)[j]? = some a := by simp [swp, hj]
theorem swp_i {l : List α} {i j : Nat} {a b : α} (hi : i < l.length) (hij : i ≠ j) : (swp l i j a b)[i]? = some b := by rw [swp, List.getElem?_set_ne (Ne.symm hij)]; simp [hi]
theorem swp_o {l : List α} {i j k : Nat} {a b : α} (hi : k ≠ i) (hj : k ≠ j) : (swp l i j a b)[k]? = l[k]? := by simp [swp, List.getElem?_set_ne (Ne.symm hi), List.getElem?_set_ne (Ne.symm hj)]
theorem swp_perm {l : List α} {i j : Nat} {a b : α} (hi : l[i]? = some a) (hj : l[j]? = some b) : (swp l i j a b).Perm l := by
  classical
  rw [List.perm_iff_count]
  intro x
  have hil := (List.getElem?_eq_some_iff.1 hi).1
  have hjl := (List.getElem?_eq_some_iff.1 hj).1
  unfold swp
  by_cases hij : i = j
  · subst hij
    have : a = b := Option.some.inj (hi.symm.trans hj)
    subst this
    have e1 : l.set i a = l := by
      apply List.ext_getElem?
      intro k
      rw [List.getElem?_set]
      split
      · rename_i h; subst h; simp [hi]
      · rfl
    rw [e1, e1]
  · have hb : (l.set i b)[j]? = some b := by rw [List.getElem?_set_ne hij]; exact hj
    rw [List.count_set (by simpa using hjl), List.count_set hil]
    have e1 : (l.set i b)[j]'(by simpa using hjl) = b := (List.getElem?_eq_some_iff.1 hb).2
    have e2 : l[i] = a := (List.getElem?_eq_some_iff.1 hi).2
    rw [e1, e2]
    have hca : 0 < l.count a := List.count_pos_iff.2 (List.mem_of_getElem? hi)
    have hcb : 0 < l.count b := List.count_pos_iff.2 (List.mem_of_getElem? hj)
    by_cases h1 : a = x <;> by_cases h2 : b = x <;> simp_all <;> omega
/-- One list comes out of another by swaps within a range. -/
inductive Sw (a b : Nat) (d : List α) : List α → Prop
  | refl : Sw a b d d
  | step {e : List α} {i j : Nat} {x y : α} (h : Sw a b d e) (ai : a ≤ i) (ib : i < b) (aj : a ≤ j) (jb : j < b) (hx : e[i]? = some x) (hy : e[j]? = some y) : Sw a b d (swp e i j x y)
theorem Sw.trans {a b : Nat} {d e f : List α} (h : Sw a b d e) (k : Sw a b e f) : Sw a b d f := by
  induction k with
  | refl => exact h
  | step _ h1 h2 h3 h4 hx hy ih => exact ih.step h1 h2 h3 h4 hx hy
theorem Sw.mono {a b a' b' : Nat} {d e : List α} (h : Sw a b d e) (ha : a' ≤ a) (hb : b ≤ b') : Sw a' b' d e := by
  induction h with
  | refl => exact .refl
  | step _ h1 h2 h3 h4 hx hy ih => exact ih.step (by omega) (by omega) (by omega) (by omega) hx hy
theorem Sw.perm {a b : Nat} {d e : List α} (h : Sw a b d e) : e.Perm d := by
  induction h with
  | refl => exact List.Perm.refl _
  | step _ _ _ _ _ hx hy ih => exact (swp_perm hx hy).trans ih
theorem Sw.len {a b : Nat} {d e : List α} (h : Sw a b d e) : e.length = d.length := h.perm.length_eq
theorem Sw.out {a b : Nat} {d e : List α} (h : Sw a b d e) {k : Nat} (hk : k < a ∨ b ≤ k) : e[k]? = d[k]? := by
  induction h with
  | refl => rfl
  | step _ h1 h2 h3 h4 hx hy ih => rw [swp_o (by omega) (by omega)]; exact ih
/-- What holds of all in the range, holds of all afterwards. -/
theorem Sw.all {a b : Nat} {d e : List α} (h : Sw a b d e) {p : α → Prop} (hp : ∀ k x, a ≤ k → k < b → d[k]? = some x → p x) : ∀ k x, a ≤ k → k < b → e[k]? = some x → p x := by
  induction h with
  | refl => exact hp
  | @step e i j x y _ h1 h2 h3 h4 hx hy ih =>
    intro k u hk1 hk2 hu
    have hil := (List.getElem?_eq_some_iff.1 hx).1
    have hjl := (List.getElem?_eq_some_iff.1 hy).1
    by_cases hkj : k = j
    · subst hkj; rw [swp_j hjl] at hu; cases hu; exact ih i _ h1 h2 hx
    · by_cases hki : k = i
      · subst hki; rw [swp_i hil hkj] at hu; cases hu; exact ih j _ h3 h4 hy
      · rw [swp_o hki hkj] at hu; exact ih k u hk1 hk2 hu
end sw

/-! ### The row -/
/-- What sorting may turn: the row, and what was laid since. -/
def Tn (blk lim : Nat) : Nat → Prop := fun b => b = blk ∨ lim ≤ b
structure SE {α : Type} (P : Program) (enc : α → List Value) (sz : Nat) (cf : α → α → Int) (fv : Value) (blk lim : Nat) (inv : World → Prop) : Prop where
  len : ∀ a, (enc a).length = sz
  one : ∀ a, (enc a).all oneC = true
  cmp : ∀ W x y, inv W → Yield P (callSem fv #[.agg (enc x).toArray, .agg (enc y).toArray]) W (fun v W' => v = .int .i64 (cf x y) ∧ Below W.heap.size W W') (fun _ _ => False)
  stab : ∀ W W', inv W → Fr (Tn blk lim) W W' → inv W'
  bl : blk < lim
structure SS {α : Type} (enc : α → List Value) (sz : Nat) (el : TypeId) (blk lim cap : Nat) (inv : World → Prop) (W : World) (d : List α) : Prop where
  i : inv W
  lm : lim ≤ W.heap.size
  r : SlR W el sz enc (.slice (some ⟨blk, 0, none⟩) d.length cap) d
section row
variable {α : Type} {P : Program} {enc : α → List Value} {sz : Nat} {el : TypeId} {cf : α → α → Int} {fv : Value} {blk lim cap : Nat} {inv : World → Prop}
theorem SS.below (E : SE P enc sz cf fv blk lim inv) {W W' : World} {d : List α} (h : SS enc sz el blk lim cap inv W d) (hb : Below W.heap.size W W') : SS enc sz el blk lim cap inv W' d :=
  ⟨E.stab _ _ h.i (frOf hb), Nat.le_trans h.lm hb.size, h.r.of_heap fun g hg => hb.block g (h.r.lt hg)⟩
/-- Something else turns. -/
theorem SS.other (E : SE P enc sz cf fv blk lim inv) {W W' : World} {d : List α} (h : SS enc sz el blk lim cap inv W d) (hf : Fr (fun b => lim ≤ b) W W') : SS enc sz el blk lim cap inv W' d :=
  ⟨E.stab _ _ h.i (hf.mono fun _ _ h => .inr h), Nat.le_trans h.lm hf.size, h.r.of_heap fun g hg => by cases hg; exact hf.blk blk (h.r.lt rfl) (by have := E.bl; omega)⟩
theorem SS.cells {W : World} {d : List α} (h : SS enc sz el blk lim cap inv W d) (hd : d ≠ []) : ∃ cur, W.heap[blk]? = some (.cells cur el (0, 0)) ∧ d.length ≤ cap ∧ cap ≤ maxLen ∧ cur.size = cap * sz ∧ cur.toList.take (d.length * sz) = d.flatMap enc := by
  obtain ⟨g, cap', cur, hv, h1, h2, h3, h4, h5⟩ := h.r.cells hd
  cases hv
  exact ⟨cur, h1, h2, h3, h4, h5⟩
theorem ne_nil {d : List α} {j : Nat} {x : α} (h : d[j]? = some x) : d ≠ [] := by intro e; subst e; simp at h
theorem SS.read (E : SE P enc sz cf fv blk lim inv) {W : World} {d : List α} (h : SS enc sz el blk lim cap inv W d) {n : Nat} (hn : n = d.length) {i : Int} {j : Nat} {x : α} (hi : i = (j : Int)) (hx : d[j]? = some x) {K : List Value → Prop} (hk : K (enc x)) :
    IdxS (some ⟨blk, 0, none⟩) n i sz fun q => LdNC W q sz fun l => K l := by
  subst hn
  obtain ⟨cur, h1, h2, h3, h4, h5⟩ := h.cells (ne_nil hx)
  refine IdxS.mk hi (List.getElem?_eq_some_iff.1 hx).1 ?_
  exact LdNC.ad h1 (E.len x) (by rw [Nat.zero_add]; exact row_get E.len h5 hx) hk
theorem SS.write0 (E : SE P enc sz cf fv blk lim inv) {W : World} {d : List α} (h : SS enc sz el blk lim cap inv W d) {n : Nat} (hn : n = d.length) {i : Int} {j : Nat} {x y : α} (hi : i = (j : Int)) (hx : d[j]? = some x) {K : World → Prop}
    (hk : ∀ W', SS enc sz el blk lim cap inv W' (d.set j y) → Fr (fun b => b = blk) W W' → K W') : IdxS (some ⟨blk, 0, none⟩) n i sz fun q => StV sz W q (.agg (enc y).toArray) fun W' => K W' := by
  subst hn
  obtain ⟨cur, h1, h2, h3, h4, h5⟩ := h.cells (ne_nil hx)
  have hlt := (List.getElem?_eq_some_iff.1 hx).1
  have hle : j * sz + sz ≤ cur.size := by
    rw [h4]
    have : (j + 1) * sz ≤ cap * sz := Nat.mul_le_mul_right _ (by omega)
    rwa [Nat.add_mul, Nat.one_mul] at this
  obtain ⟨hs1, hs2⟩ := row_set E.len y h2 h4 h5 hlt
  refine IdxS.mk hi hlt ?_
  refine StV.ad h1 (v := .agg (enc y).toArray) (by simpa [Value.cells] using E.len y) (by omega) (by simpa [Value.cells] using E.one y) (cs := (cur.toList.take (j * sz) ++ enc y ++ cur.toList.drop (j * sz + sz)).toArray) (by simp [Value.cells]) fun W' hg' _ hf => ?_
  have hf' : Fr (Tn blk lim) W W' := hf.mono fun _ _ h => .inl h
  refine hk W' ⟨E.stab _ _ h.i hf', Nat.le_trans h.lm hf.size, ?_⟩ hf
  have := SlR.mk (l := d.set j y) E.len hg' (by simpa using h2) h3 hs1 hs2
  exact this
/-- data[i], data[j] = data[j], data[i]. -/
theorem SS.swap0 (E : SE P enc sz cf fv blk lim inv) {W : World} {d : List α} (h : SS enc sz el blk lim cap inv W d) {n : Nat} (hn : n = d.length) {i1 i2 : Int} {j1 j2 : Nat} {x y : α} (hi1 : i1 = (j1 : Int)) (hi2 : i2 = (j2 : Int)) (hx : d[j1]? = some x) (hy : d[j2]? = some y) {K : World → Prop}
    (hk : ∀ W', SS enc sz el blk lim cap inv W' (swp d j1 j2 x y) → Fr (fun b => b = blk) W W' → K W') :
    IdxS (some ⟨blk, 0, none⟩) n i2 sz fun q => LdNC W q sz fun l => Any W fun W4 => IdxS (some ⟨blk, 0, none⟩) n i1 sz fun q' => LdNC W4 q' sz fun l' =>
      IdxS (some ⟨blk, 0, none⟩) n i1 sz fun q2 => StV sz W4 q2 (.agg l.toArray) fun W5 => IdxS (some ⟨blk, 0, none⟩) n i2 sz fun q3 => StV sz W5 q3 (.agg l'.toArray) fun W6 => K W6 := by
  refine h.read E hn hi2 hy ?_
  intro W4 hb4
  have h4 := h.below E hb4
  refine h4.read E hn hi1 hx ?_
  refine h4.write0 E hn hi1 hx fun W5 h5 hf5 => ?_
  have hjl := (List.getElem?_eq_some_iff.1 hy).1
  have hy5 : ∃ z, (d.set j1 y)[j2]? = some z := ⟨_, List.getElem?_eq_getElem (by simpa using hjl)⟩
  obtain ⟨z, hz⟩ := hy5
  refine h5.write0 E (by simpa using hn) hi2 hz fun W6 h6 hf6 => ?_
  exact hk W6 h6 (((frOf hb4).trans hf5).trans hf6)
theorem SS.swap (E : SE P enc sz cf fv blk lim inv) {W : World} {d : List α} (h : SS enc sz el blk lim cap inv W d) {n : Nat} (hn : n = d.length) {i1 i2 : Int} {j1 j2 : Nat} {x y : α} (hi1 : i1 = (j1 : Int)) (hi2 : i2 = (j2 : Int)) (hx : d[j1]? = some x) (hy : d[j2]? = some y) {K : World → Prop}
    (hk : ∀ W', SS enc sz el blk lim cap inv W' (swp d j1 j2 x y) → Fr (Tn blk lim) W W' → K W') :
    IdxS (some ⟨blk, 0, none⟩) n i2 sz fun q => LdNC W q sz fun l => Any W fun W4 => IdxS (some ⟨blk, 0, none⟩) n i1 sz fun q' => LdNC W4 q' sz fun l' =>
      IdxS (some ⟨blk, 0, none⟩) n i1 sz fun q2 => StV sz W4 q2 (.agg l.toArray) fun W5 => IdxS (some ⟨blk, 0, none⟩) n i2 sz fun q3 => StV sz W5 q3 (.agg l'.toArray) fun W6 => K W6 :=
  h.swap0 E hn hi1 hi2 hx hy fun W' h' hf => hk W' h' (hf.mono fun _ _ h => .inl h)
theorem SS.call (E : SE P enc sz cf fv blk lim inv) {W : World} {d : List α} (h : SS enc sz el blk lim cap inv W d) (x y : α) {K : Int → World → Prop} (hk : ∀ W', SS enc sz el blk lim cap inv W' d → Fr (Tn blk lim) W W' → K (cf x y) W') :
    YieldK P (callSem fv #[.agg (enc x).toArray, .agg (enc y).toArray]) W (fun _ _ => False) fun u W' => AsI .i64 u fun r => K r W' := by
  refine (E.cmp W x y h.i).mono ?_ (fun _ _ h => h)
  rintro _ W' ⟨rfl, hb⟩
  exact AsI.mk (hk W' (h.below E hb) (frOf hb))
/-- cmp(data[i], data[j]). -/
theorem SS.cmpA (E : SE P enc sz cf fv blk lim inv) {W : World} {d : List α} (h : SS enc sz el blk lim cap inv W d) {n : Nat} (hn : n = d.length) {i1 i2 : Int} {j1 j2 : Nat} {x y : α} (hi1 : i1 = (j1 : Int)) (hi2 : i2 = (j2 : Int)) (hx : d[j1]? = some x) (hy : d[j2]? = some y) {K : Int → World → Prop}
    (hk : ∀ W', SS enc sz el blk lim cap inv W' d → Fr (Tn blk lim) W W' → K (cf x y) W') :
    IdxS (some ⟨blk, 0, none⟩) n i1 sz fun q => LdNC W q sz fun l => IdxS (some ⟨blk, 0, none⟩) n i2 sz fun q' => LdNC W q' sz fun l' => Any W fun W2 =>
      YieldK P (callSem fv #[.agg l.toArray, .agg l'.toArray]) W2 (fun _ _ => False) fun u W' => AsI .i64 u fun r => K r W' := by
  refine h.read E hn hi1 hx (h.read E hn hi2 hy ?_)
  intro W2 hb2
  refine (h.below E hb2).call E x y fun W' h' hb' => hk W' h' ((frOf hb2).trans hb')
theorem SS.cmpB (E : SE P enc sz cf fv blk lim inv) {W : World} {d : List α} (h : SS enc sz el blk lim cap inv W d) {n : Nat} (hn : n = d.length) {i1 i2 : Int} {j1 j2 : Nat} {x y : α} (hi1 : i1 = (j1 : Int)) (hi2 : i2 = (j2 : Int)) (hx : d[j1]? = some x) (hy : d[j2]? = some y) {K : Int → World → Prop}
    (hk : ∀ W', SS enc sz el blk lim cap inv W' d → Fr (Tn blk lim) W W' → K (cf x y) W') :
    IdxS (some ⟨blk, 0, none⟩) n i1 sz fun q => LdNC W q sz fun l => Any W fun W2 => IdxS (some ⟨blk, 0, none⟩) n i2 sz fun q' => LdNC W2 q' sz fun l' =>
      YieldK P (callSem fv #[.agg l.toArray, .agg l'.toArray]) W2 (fun _ _ => False) fun u W' => AsI .i64 u fun r => K r W' := by
  refine h.read E hn hi1 hx ?_
  intro W2 hb2
  have h2 := h.below E hb2
  refine h2.read E hn hi2 hy ?_
  refine h2.call E x y fun W' h' hb' => hk W' h' ((frOf hb2).trans hb')
end row
end Go.Vc
