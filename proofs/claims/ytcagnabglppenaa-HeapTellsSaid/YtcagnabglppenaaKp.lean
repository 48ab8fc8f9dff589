/- The heap of numbers against its reference: lists in order, plain. -/
import Derived.Test.YtcagnabglppenaaKh
import Derived.Test.YtcagnabglppenaaLe
namespace Go.Proofs.Ytcagnabglppenaa.Hp
open Go Go.RowKit Go.Vc Go.Proofs.Ytcagnabglppenaa.Fs Go.Proofs.Ytcagnabglppenaa.Hl Go.Proofs.Ytcagnabglppenaa.Sr

def ahead (x y : Item) : Bool := decide (x.2 < y.2) || (decide (x.2 = y.2) && decide (x.1 < y.1))
theorem ahead_iff (x y : Item) : ahead x y = true ↔ x.2 < y.2 ∨ (x.2 = y.2 ∧ x.1 < y.1) := by simp [ahead]
theorem ahead_le {x y : Item} (h : ahead x y = true) : leI x y := by rw [ahead_iff] at h; rw [leI_iff]; omega
theorem not_ahead {x y : Item} (h : ahead x y = false) : leI y x := by
  have : ¬ (x.2 < y.2 ∨ (x.2 = y.2 ∧ x.1 < y.1)) := fun k => by rw [(ahead_iff x y).2 k] at h; cases h
  rw [leI_iff]; omega
theorem le_ahead {x y : Item} (h : leI x y) (hk : x.1 ≠ y.1) : ahead x y = true := by rw [ahead_iff]; rw [leI_iff] at h; omega
def ins (l : List Item) (x : Item) : List Item := l.takeWhile (fun y => ahead y x) ++ x :: l.dropWhile (fun y => ahead y x)
theorem split_at {l : List Item} {p : Item → Bool} {j : Nat} (h1 : ∀ y ∈ l.take j, p y = true) (h2 : ∀ y, l[j]? = some y → p y = false) : l.takeWhile p = l.take j ∧ l.dropWhile p = l.drop j := by
  induction l generalizing j with
  | nil => simp
  | cons z r ih =>
    cases j with
    | zero =>
      have := h2 z rfl
      simp [this]
    | succ j =>
      have hz := h1 z (by simp)
      obtain ⟨e1, e2⟩ := ih (j := j) (fun y hy => h1 y (by simp [hy])) (fun y hy => h2 y (by simpa using hy))
      simp [hz, e1, e2]
theorem ins_perm (l : List Item) (x : Item) : (ins l x).Perm (x :: l) := by
  unfold ins
  refine List.perm_middle.trans ?_
  rw [List.takeWhile_append_dropWhile]
theorem ins_sorted {l : List Item} (x : Item) (h : l.Pairwise leI) : (ins l x).Pairwise leI := by
  have hl := h
  rw [← List.takeWhile_append_dropWhile (p := fun y => ahead y x) (l := l)] at hl
  obtain ⟨h1, h2, h3⟩ := List.pairwise_append.1 hl
  have ht : ∀ y ∈ l.takeWhile (fun y => ahead y x), leI y x := fun y hy => ahead_le (by have := List.all_takeWhile (p := fun y => ahead y x) (l := l); rw [List.all_eq_true] at this; exact this y hy)
  have hd : ∀ y ∈ l.dropWhile (fun y => ahead y x), leI x y := by
    cases hdw : l.dropWhile (fun y => ahead y x) with
    | nil => intro y hy; cases hy
    | cons z r =>
      have hz : ahead z x = false := by
        have := List.head?_dropWhile_not (fun y => ahead y x) l
        rw [hdw] at this
        simpa using this
      have hxz := not_ahead hz
      rw [hdw] at h2
      intro y hy
      rcases List.mem_cons.1 hy with rfl | hy
      · exact hxz
      · exact leI_tr _ _ _ hxz ((List.pairwise_cons.1 h2).1 y hy)
  refine List.pairwise_append.2 ⟨h1, List.pairwise_cons.2 ⟨hd, h2⟩, fun a ha b hb => ?_⟩
  rcases List.mem_cons.1 hb with rfl | hb
  · exact ht a ha
  · exact h3 a ha b hb
theorem erase_sorted {l : List Item} (i : Nat) (h : l.Pairwise leI) : (l.eraseIdx i).Pairwise leI := h.sublist (List.eraseIdx_sublist _ _)
/-- Keys stand once. -/
def Uniq (l : List Item) : Prop := l.Pairwise fun x y => x.1 ≠ y.1
theorem Uniq.perm {l d : List Item} (h : Uniq l) (hp : l.Perm d) : Uniq d := hp.pairwise h fun h => Ne.symm h
theorem Uniq.idx {l : List Item} (h : Uniq l) {i j : Nat} {k u v : Int} (hi : l[i]? = some (k, u)) (hj : l[j]? = some (k, v)) : i = j := by
  obtain ⟨hil, ei⟩ := List.getElem?_eq_some_iff.1 hi
  obtain ⟨hjl, ej⟩ := List.getElem?_eq_some_iff.1 hj
  rcases Nat.lt_trichotomy i j with hlt | he | hlt
  · have := List.pairwise_iff_getElem.1 h i j hil hjl hlt; rw [ei, ej] at this; exact absurd rfl this
  · exact he
  · have := List.pairwise_iff_getElem.1 h j i hjl hil hlt; rw [ei, ej] at this; exact absurd rfl this
theorem Uniq.val {l : List Item} (h : Uniq l) {k u v : Int} (hi : (k, u) ∈ l) (hj : (k, v) ∈ l) : u = v := by
  obtain ⟨i, hi⟩ := List.getElem?_of_mem hi
  obtain ⟨j, hj⟩ := List.getElem?_of_mem hj
  have := h.idx hi hj
  subst this
  rw [hi] at hj
  cases hj; rfl
theorem key_perm {l d : List Item} (hp : l.Perm d) (k : Int) : Key l k ↔ Key d k := ⟨fun ⟨w, h⟩ => ⟨w, hp.mem_iff.1 h⟩, fun ⟨w, h⟩ => ⟨w, hp.mem_iff.2 h⟩⟩
theorem uniq_cons {l : List Item} (h : Uniq l) {x : Item} (hx : ¬ Key l x.1) : Uniq (x :: l) := List.pairwise_cons.2 ⟨fun y hy e => hx ⟨y.2, by rw [e]; exact hy⟩, h⟩
theorem erase_perm {l : List Item} {i : Nat} {x : Item} (h : l[i]? = some x) : (x :: l.eraseIdx i).Perm l := by
  obtain ⟨e1, _⟩ := take_step h
  rw [List.eraseIdx_eq_take_drop_succ]
  exact List.perm_middle.symm.trans (e1 ▸ List.Perm.refl _)
/-- Out of two lists of the same things the same thing goes. -/
theorem perm_erase {l d : List Item} (hp : l.Perm d) (hu : Uniq l) {i j : Nat} {k u v : Int} (hi : l[i]? = some (k, u)) (hj : d[j]? = some (k, v)) : u = v ∧ (l.eraseIdx i).Perm (d.eraseIdx j) := by
  have e : u = v := hu.val (List.mem_of_getElem? hi) (hp.mem_iff.2 (List.mem_of_getElem? hj))
  subst e
  exact ⟨rfl, (List.perm_cons (k, u)).1 ((erase_perm hi).trans (hp.trans (erase_perm hj).symm))⟩
theorem set_perm {l : List Item} {i : Nat} {x : Item} (y : Item) (h : l[i]? = some x) : (l.set i y).Perm (y :: l.eraseIdx i) := by
  have hlt := (List.getElem?_eq_some_iff.1 h).1
  have h1 : (l.set i y)[i]? = some y := by simp [hlt]
  have := (erase_perm h1).symm
  rwa [List.eraseIdx_set_eq] at this
theorem HeapS.uniq {W : World} {B : Nat} {S : Nat → Prop} {l : List Item} (h : HeapS W B S l) : Uniq l := by
  obtain ⟨⟨m, sl, ho, _⟩, _⟩ := h
  obtain ⟨⟨f, _, hm⟩, _⟩ := ho.c
  refine List.pairwise_iff_getElem.2 fun i j hi hj hij e => ?_
  have h1 := (hm l[i].1 i).2 ⟨l[i].2, List.getElem?_eq_getElem hi⟩
  have h2 := (hm l[i].1 j).2 ⟨l[j].2, by rw [e]; exact List.getElem?_eq_getElem hj⟩
  rw [h1] at h2
  have := Option.some.inj h2
  omega
theorem HeapS.len {W : World} {B : Nat} {S : Nat → Prop} {l : List Item} (h : HeapS W B S l) : l.length < 1099511627776 := by
  obtain ⟨⟨m, sl, ho, _⟩, _⟩ := h; exact ho.c.len
theorem HeapS.wf {W : World} {B : Nat} {S : Nat → Prop} {l : List Item} (h : HeapS W B S l) : ∀ x ∈ l, 0 ≤ x.2 ∧ x.2 < 18446744073709551616 := by
  obtain ⟨⟨m, sl, ho, _⟩, _⟩ := h; exact ho.wf
theorem HeapS.head {W : World} {B : Nat} {S : Nat → Prop} {l : List Item} (h : HeapS W B S l) : S B := by
  obtain ⟨⟨m, sl, ho, hS⟩, _⟩ := h; exact hS B (.inl rfl)
theorem HeapS.mono {W : World} {B : Nat} {S T : Nat → Prop} {l : List Item} (h : HeapS W B S l) (hs : ∀ b, S b → T b) (hT : ∀ b, T b → b < W.heap.size) : HeapS W B T l := by
  obtain ⟨⟨m, sl, ho, hS⟩, _⟩ := h; exact ⟨⟨m, sl, ho, fun b hb => hs b (hS b hb)⟩, hT⟩
def hasK (l : List Item) (k : Int) : Bool := l.any fun y => decide (y.1 = k)
theorem hasK_iff (l : List Item) (k : Int) : hasK l k = true ↔ Key l k := by
  unfold hasK Key
  rw [List.any_eq_true]
  exact ⟨fun ⟨y, hy, e⟩ => ⟨y.2, by have := of_decide_eq_true e; rw [← this]; exact hy⟩, fun ⟨w, hw⟩ => ⟨(k, w), hw, by simp⟩⟩
theorem hasK_not (l : List Item) (k : Int) : hasK l k = false ↔ ¬ Key l k := by rw [← hasK_iff]; simp
/-- What lets in each thing that comes first. -/
def fillL : List Item → List Item → List Item
  | acc, [] => acc
  | acc, x :: r => cond (hasK acc x.1) (fillL acc r) (fillL (acc ++ [x]) r)
theorem fillL_snoc (acc r : List Item) (x : Item) : fillL acc (r ++ [x]) = cond (hasK (fillL acc r) x.1) (fillL acc r) (fillL acc r ++ [x]) := by
  induction r generalizing acc with
  | nil => simp only [List.nil_append, fillL]
  | cons y r ih =>
    simp only [List.cons_append, fillL]
    cases hasK acc y.1
    · exact ih (acc ++ [y])
    · exact ih acc
theorem fillL_key (acc r : List Item) (k : Int) : Key (fillL acc r) k ↔ Key acc k ∨ Key r k := by
  induction r generalizing acc with
  | nil => simp only [fillL]; exact ⟨.inl, fun h => h.elim id fun ⟨w, h⟩ => (by cases h)⟩
  | cons y r ih =>
    simp only [fillL]
    have hc : Key (y :: r) k ↔ k = y.1 ∨ Key r k := ⟨fun ⟨w, h⟩ => (List.mem_cons.1 h).elim (fun e => .inl (by rw [← e])) fun h => .inr ⟨w, h⟩, fun h => h.elim (fun e => ⟨y.2, by rw [e]; simp⟩) fun ⟨w, h⟩ => ⟨w, by simp [h]⟩⟩
    have ha : Key (acc ++ [y]) k ↔ Key acc k ∨ k = y.1 := ⟨fun ⟨w, h⟩ => (List.mem_append.1 h).elim (fun h => .inl ⟨w, h⟩) fun h => .inr (by simp at h; rw [← h]), fun h => h.elim (fun ⟨w, h⟩ => ⟨w, by simp [h]⟩) fun e => ⟨y.2, by rw [e]; simp⟩⟩
    cases hh : hasK acc y.1 with
    | true =>
      have hk := (hasK_iff _ _).1 hh
      simp only [cond_true]
      rw [ih, hc]
      constructor
      · rintro (h | h)
        · exact .inl h
        · exact .inr (.inr h)
      · rintro (h | rfl | h)
        · exact .inl h
        · exact .inl hk
        · exact .inr h
    | false =>
      simp only [cond_false]
      rw [ih, hc, ha]
      constructor
      · rintro ((h | h) | h)
        · exact .inl h
        · exact .inr (.inl h)
        · exact .inr (.inr h)
      · rintro (h | h | h)
        · exact .inl (.inl h)
        · exact .inl (.inr h)
        · exact .inr h
theorem fillL_len (acc r : List Item) : (fillL acc r).length ≤ acc.length + r.length := by
  induction r generalizing acc with
  | nil => simp [fillL]
  | cons y r ih =>
    simp only [fillL]
    cases hasK acc y.1
    · have := ih (acc ++ [y]); simp at this ⊢; omega
    · have := ih acc; simp; omega
theorem fillL_uniq {acc : List Item} (r : List Item) (h : Uniq (acc ++ r)) : fillL acc r = acc ++ r := by
  induction r generalizing acc with
  | nil => simp [fillL]
  | cons y r ih =>
    simp only [fillL]
    have hn : ¬ Key acc y.1 := by
      rintro ⟨w, hw⟩
      have := (List.pairwise_append.1 h).2.2 _ hw y (by simp)
      exact this rfl
    rw [(hasK_not _ _).2 hn, cond_false, ih (by simpa using h)]
    simp
end Go.Proofs.Ytcagnabglppenaa.Hp
