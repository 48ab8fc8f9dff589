/- Summaries of bounded size. -/
import Derived.Test.YtcagnabglppenaaHq
import Derived.Test.YtcagnabglppenaaPve
import Derived.Test.YtcagnabglppenaaSq
namespace Go.Proofs.Ytcagnabglppenaa.Sv
open Go Go.RowKit Go.Vc Go.Proofs.Ytcagnabglppenaa.Px Go.Proofs.Ytcagnabglppenaa.Hq Go.Proofs.Ytcagnabglppenaa.Hl

abbrev Cnt := Pfx × Int × Int
def isP (p q : Pfx) : Bool := decide (cmpP p q = 0)
theorem isP_iff {p q : Pfx} : isP p q = true ↔ p = q := by unfold isP; rw [decide_eq_true_iff]; exact cmpP_iff
theorem isP_self (p : Pfx) : isP p p = true := isP_iff.2 rfl
theorem isP_not {p q : Pfx} : isP p q = false ↔ p ≠ q := by rw [← Bool.not_eq_true, isP_iff]
/-- In order, each prefix once. -/
def Asc (l : List Cnt) : Prop := l.Pairwise fun x y => cmpP x.1 y.1 < 0
def Has (l : List Cnt) (p : Pfx) : Prop := ∃ c ∈ l, c.1 = p
def hasC (l : List Cnt) (p : Pfx) : Bool := l.any fun c => isP c.1 p
theorem hasC_iff {l : List Cnt} {p : Pfx} : hasC l p = true ↔ Has l p := by
  unfold hasC Has
  rw [List.any_eq_true]
  exact ⟨fun ⟨c, h1, h2⟩ => ⟨c, h1, isP_iff.1 h2⟩, fun ⟨c, h1, h2⟩ => ⟨c, h1, isP_iff.2 h2⟩⟩
theorem hasC_not {l : List Cnt} {p : Pfx} : hasC l p = false ↔ ¬ Has l p := by rw [← hasC_iff]; simp
theorem lt_tr {p q r : Pfx} (h : cmpP p q < 0) (k : cmpP q r < 0) : cmpP p r < 0 := by
  have h1 := ord3P.tr p q r (by omega) (by omega)
  refine Classical.byContradiction fun hn => ?_
  have e : cmpP p r = 0 := by omega
  have := (ord3P.cong (z := q) e).1
  have := ord3P.sym q r
  omega
theorem Asc.uniq {l : List Cnt} (h : Asc l) {c d : Cnt} (hc : c ∈ l) (hd : d ∈ l) (e : c.1 = d.1) : c = d := by
  obtain ⟨i, hi⟩ := List.getElem?_of_mem hc
  obtain ⟨j, hj⟩ := List.getElem?_of_mem hd
  obtain ⟨hil, ei⟩ := List.getElem?_eq_some_iff.1 hi
  obtain ⟨hjl, ej⟩ := List.getElem?_eq_some_iff.1 hj
  rcases Nat.lt_trichotomy i j with hlt | he | hlt
  · have := List.pairwise_iff_getElem.1 h i j hil hjl hlt; rw [ei, ej, e, ord3P.refl] at this; omega
  · subst he; rw [hi] at hj; exact Option.some.inj hj
  · have := List.pairwise_iff_getElem.1 h j i hjl hil hlt; rw [ei, ej, e, ord3P.refl] at this; omega
/-- With one more, at its place. -/
def withC (l : List Cnt) (c : Cnt) : List Cnt := l.takeWhile (fun d => decide (cmpP d.1 c.1 < 0)) ++ c :: l.dropWhile (fun d => decide (cmpP d.1 c.1 < 0))
theorem withC_perm (l : List Cnt) (c : Cnt) : (withC l c).Perm (c :: l) := by
  unfold withC
  refine List.perm_middle.trans ?_
  rw [List.takeWhile_append_dropWhile]
theorem withC_asc {l : List Cnt} {c : Cnt} (h : Asc l) (hn : ¬ Has l c.1) : Asc (withC l c) := by
  have hl := h
  unfold Asc at hl
  rw [← List.takeWhile_append_dropWhile (p := fun d => decide (cmpP d.1 c.1 < 0)) (l := l)] at hl
  obtain ⟨h1, h2, h3⟩ := List.pairwise_append.1 hl
  have ht : ∀ y ∈ l.takeWhile (fun d => decide (cmpP d.1 c.1 < 0)), cmpP y.1 c.1 < 0 := fun y hy => by
    have := List.all_takeWhile (p := fun d : Cnt => decide (cmpP d.1 c.1 < 0)) (l := l)
    rw [List.all_eq_true] at this
    simpa using this y hy
  have hsub : ∀ y ∈ l.dropWhile (fun d => decide (cmpP d.1 c.1 < 0)), y ∈ l := fun y hy => (List.dropWhile_sublist _).subset hy
  have hd : ∀ y ∈ l.dropWhile (fun d => decide (cmpP d.1 c.1 < 0)), cmpP c.1 y.1 < 0 := by
    cases hdw : l.dropWhile (fun d => decide (cmpP d.1 c.1 < 0)) with
    | nil => intro y hy; cases hy
    | cons z r =>
      have hz : ¬ cmpP z.1 c.1 < 0 := by
        have := List.head?_dropWhile_not (fun d : Cnt => decide (cmpP d.1 c.1 < 0)) l
        rw [hdw] at this
        simpa using this
      have hzc : z.1 ≠ c.1 := fun e => hn ⟨z, hsub z (by rw [hdw]; simp), e⟩
      have hcz : cmpP c.1 z.1 < 0 := by
        have h1 := ord3P.sym z.1 c.1
        have h2 : cmpP z.1 c.1 ≠ 0 := fun e => hzc (cmpP_zero e)
        omega
      rw [hdw] at h2
      intro y hy
      rcases List.mem_cons.1 hy with rfl | hy
      · exact hcz
      · exact lt_tr hcz ((List.pairwise_cons.1 h2).1 y hy)
  refine List.pairwise_append.2 ⟨h1, List.pairwise_cons.2 ⟨hd, h2⟩, fun a ha b hb => ?_⟩
  rcases List.mem_cons.1 hb with rfl | hb
  · exact ht a ha
  · exact h3 a ha b hb
theorem asc_erase {l : List Cnt} (i : Nat) (h : Asc l) : Asc (l.eraseIdx i) := h.sublist (List.eraseIdx_sublist _ _)
theorem split_at {l : List Cnt} {p : Cnt → Bool} {j : Nat} (h1 : ∀ y ∈ l.take j, p y = true) (h2 : ∀ y, l[j]? = some y → p y = false) : l.takeWhile p = l.take j ∧ l.dropWhile p = l.drop j := by
  induction l generalizing j with
  | nil => simp
  | cons z r ih =>
    cases j with
    | zero =>
      have := h2 z rfl
      simp [this]
    | succ j =>
      have hz := h1 z (by simp)
      obtain ⟨e1, e2⟩ := ih (j := j) (fun y hy => h1 y (by simp [hy])) (fun y hy => h2 y (by simpa using hy))
      simp [hz, e1, e2]
/-- Two in order that hold the same are the same. -/
theorem asc_one : ∀ {l d : List Cnt}, l.Perm d → Asc l → Asc d → l = d
  | [], d, h, _, _ => by have := h.length_eq; exact (List.eq_nil_of_length_eq_zero this.symm).symm
  | x :: l, [], h, _, _ => by have := h.length_eq; simp at this
  | x :: l, y :: d, h, h1, h2 => by
    have e : x = y := by
      have hx : x ∈ y :: d := h.mem_iff.1 (by simp)
      have hy : y ∈ x :: l := h.mem_iff.2 (by simp)
      rcases List.mem_cons.1 hx with e | hx
      · exact e
      · rcases List.mem_cons.1 hy with e | hy
        · exact e.symm
        · have a := (List.pairwise_cons.1 h1).1 y hy
          have b := (List.pairwise_cons.1 h2).1 x hx
          have := ord3P.sym x.1 y.1
          omega
    subst e
    rw [asc_one ((List.perm_cons x).1 h) (List.pairwise_cons.1 h1).2 (List.pairwise_cons.1 h2).2]
/-! ### Sums -/
def sumC (f : Cnt → Int) : List Cnt → Int
  | [] => 0
  | c :: l => f c + sumC f l
theorem sumC_perm {f : Cnt → Int} {l d : List Cnt} (h : l.Perm d) : sumC f l = sumC f d := by
  induction h with
  | nil => rfl
  | cons x _ ih => simp only [sumC, ih]
  | swap x y l => simp only [sumC]; omega
  | trans _ _ h1 h2 => exact h1.trans h2
theorem sumC_nonneg {f : Cnt → Int} {l : List Cnt} (h : ∀ c ∈ l, 0 ≤ f c) : 0 ≤ sumC f l := by
  induction l with
  | nil => exact Int.le_refl 0
  | cons x l ih => have := h x (by simp); have := ih fun c hc => h c (by simp [hc]); simp only [sumC]; omega
theorem sumC_le {f : Cnt → Int} {l : List Cnt} (h : ∀ c ∈ l, 0 ≤ f c) {c : Cnt} (hc : c ∈ l) : f c ≤ sumC f l := by
  induction l with
  | nil => cases hc
  | cons x l ih =>
    have h1 := h x (by simp)
    have h2 := sumC_nonneg (f := f) (l := l) fun c hc => h c (by simp [hc])
    simp only [sumC]
    rcases List.mem_cons.1 hc with rfl | hc
    · omega
    · have := ih (fun c hc => h c (by simp [hc])) hc; omega
theorem sumC_sub (s : Int) (l : List Cnt) : sumC (fun c => c.2.1 - s) l = sumC (fun c => c.2.1) l - s * l.length := by
  induction l with
  | nil => simp [sumC]
  | cons x l ih => simp only [sumC, ih, List.length_cons]; push_cast; rw [Int.mul_add]; omega
/-! ### Summaries -/
structure Sv where
  k : Int
  n : Int
  sl : Int
  l : List Cnt
/-- What a summary of weights looks like. -/
structure May (x : Sv) : Prop where
  k1 : 1 ≤ x.k
  k2 : x.k ≤ 200
  n0 : 0 ≤ x.n
  n1 : x.n ≤ 4611686018427387904
  s0 : 0 ≤ x.sl
  len : (x.l.length : Int) ≤ x.k
  asc : Asc x.l
  each : ∀ c ∈ x.l, x.sl ≤ c.2.1 ∧ 0 ≤ c.2.2 ∧ c.2.2 ≤ x.sl ∧ c.2.2 < c.2.1
  over : sumC (fun c => c.2.1 - x.sl) x.l + x.k * x.sl ≤ x.n
  low : sumC (fun c => c.2.1 - c.2.2) x.l ≤ x.n
  all : x.sl = 0 → sumC (fun c => c.2.1) x.l = x.n
theorem May.le {x : Sv} (h : May x) {c : Cnt} (hc : c ∈ x.l) : c.2.1 ≤ x.n := by
  have h1 := sumC_le (f := fun c => c.2.1 - x.sl) (l := x.l) (fun c hc => by have := (h.each c hc).1; omega) hc
  have h2 := h.over
  have h3 : x.sl ≤ x.k * x.sl := by
    have := Int.mul_le_mul_of_nonneg_right h.k1 h.s0
    omega
  omega
theorem May.sle {x : Sv} (h : May x) : x.k * x.sl ≤ x.n := by
  have h1 := sumC_nonneg (f := fun c => c.2.1 - x.sl) (l := x.l) (fun c hc => by have := (h.each c hc).1; omega)
  have := h.over
  omega
theorem May.sln {x : Sv} (h : May x) : x.sl ≤ x.n := by
  have h1 := h.sle
  have h3 : x.sl ≤ x.k * x.sl := by
    have := Int.mul_le_mul_of_nonneg_right h.k1 h.s0
    omega
  omega
def plus (x : Sv) (w : Int) : Int := x.n + w
/-- Where a prefix is counted. -/
def placeC (l : List Cnt) (p : Pfx) : Option Nat := l.findIdx? fun c => isP c.1 p
theorem placeC_some {l : List Cnt} {p : Pfx} {i : Nat} (h : placeC l p = some i) : ∃ c, l[i]? = some c ∧ c.1 = p := by
  unfold placeC at h
  obtain ⟨hlt, h1, _⟩ := List.findIdx?_eq_some_iff_getElem.1 h
  exact ⟨_, List.getElem?_eq_getElem hlt, isP_iff.1 h1⟩
theorem placeC_none {l : List Cnt} {p : Pfx} (h : placeC l p = none) : ¬ Has l p := by
  unfold placeC at h
  rintro ⟨c, hc, e⟩
  have := List.findIdx?_eq_none_iff.1 h c hc
  rw [isP_not] at this
  exact this e
theorem placeC_at {l : List Cnt} (h : Asc l) {p : Pfx} {i : Nat} {c : Cnt} (hi : l[i]? = some c) (e : c.1 = p) : placeC l p = some i := by
  cases hp : placeC l p with
  | none => exact absurd ⟨c, List.mem_of_getElem? hi, e⟩ (placeC_none hp)
  | some j =>
    obtain ⟨d, hd, e2⟩ := placeC_some hp
    have : c = d := h.uniq (List.mem_of_getElem? hi) (List.mem_of_getElem? hd) (e.trans e2.symm)
    subst this
    obtain ⟨hil, ei⟩ := List.getElem?_eq_some_iff.1 hi
    obtain ⟨hjl, ej⟩ := List.getElem?_eq_some_iff.1 hd
    congr 1
    rcases Nat.lt_trichotomy i j with hlt | he | hlt
    · have := List.pairwise_iff_getElem.1 h i j hil hjl hlt; rw [ei, ej, ord3P.refl] at this; omega
    · exact he.symm
    · have := List.pairwise_iff_getElem.1 h j i hjl hil hlt; rw [ei, ej, ord3P.refl] at this; omega
/-- The index of the first of the least counts among the first ones. -/
def firstC (l : List Cnt) : Nat → Nat
  | 0 => 0
  | n + 1 => match l[n + 1]?, l[firstC l n]? with
    | some c, some d => if c.2.1 < d.2.1 then n + 1 else firstC l n
    | _, _ => firstC l n
theorem firstC_le (l : List Cnt) : ∀ n, firstC l n ≤ n
  | 0 => Nat.le_refl _
  | n + 1 => by
    unfold firstC
    have := firstC_le l n
    split
    · split <;> omega
    · omega
theorem firstC_least {l : List Cnt} (h : Asc l) : ∀ n, n < l.length → ∀ i c d, i ≤ n → l[firstC l n]? = some c → l[i]? = some d → c.2.1 < d.2.1 ∨ (c.2.1 = d.2.1 ∧ cmpP c.1 d.1 ≤ 0)
  | 0, _, i, c, d, hi, hc, hd => by
    have : i = 0 := by omega
    subst this
    unfold firstC at hc
    rw [hc] at hd; cases hd
    exact .inr ⟨rfl, by rw [ord3P.refl]; exact Int.le_refl 0⟩
  | n + 1, hn, i, c, d, hi, hc, hd => by
    have ih := firstC_least h n (by omega)
    have hf := firstC_le l n
    have hx : l[n + 1]? = some (l[n + 1]'hn) := List.getElem?_eq_getElem hn
    have hy : l[firstC l n]? = some (l[firstC l n]'(by omega)) := List.getElem?_eq_getElem (by omega)
    generalize hxe : (l[n + 1]'hn) = x at hx
    generalize hye : (l[firstC l n]'(by omega)) = y at hy
    unfold firstC at hc
    rw [hx, hy] at hc
    simp only at hc
    split at hc
    · rename_i hlt
      rw [hx] at hc; cases hc
      by_cases hin : i = n + 1
      · subst hin; rw [hx] at hd; cases hd
        exact .inr ⟨rfl, by rw [ord3P.refl]; exact Int.le_refl 0⟩
      · rcases ih i y d (by omega) hy hd with h1 | ⟨h1, _⟩ <;> exact .inl (by omega)
    · rename_i hge
      rw [hy] at hc; cases hc
      by_cases hin : i = n + 1
      · subst hin; rw [hx] at hd; cases hd
        by_cases he : c.2.1 = d.2.1
        · refine .inr ⟨he, ?_⟩
          have := List.pairwise_iff_getElem.1 h (firstC l n) (n + 1) (by omega) hn (by omega)
          rw [hxe, hye] at this
          omega
        · exact .inl (by omega)
      · exact ih i c d (by omega) hy hd
/-- A weight more: what the summary is, and what is answered. -/
def ins (x : Sv) (p : Pfx) (w : Int) : Sv × Int :=
  if w > 4611686018427387904 - x.n then (x, 13)
  else if w = 0 then (x, 0)
  else match placeC x.l p with
    | some i => (match x.l[i]? with
      | some c => ({ x with n := x.n + w, l := withC (x.l.eraseIdx i) (c.1, c.2.1 + w, c.2.2) }, 0)
      | none => (x, 0))
    | none => if (x.l.length : Int) = x.k then
        (match x.l[firstC x.l (x.l.length - 1)]? with
        | some c => ({ x with n := x.n + w, sl := c.2.1, l := withC (x.l.eraseIdx (firstC x.l (x.l.length - 1))) (p, c.2.1 + w, c.2.1) }, 0)
        | none => (x, 0))
      else ({ x with n := x.n + w, l := withC x.l (p, x.sl + w, x.sl) }, 0)
/-- What an insertion comes to. -/
inductive Ins (x : Sv) (p : Pfx) (w : Int) : Sv × Int → Prop
  | over (h : w > 4611686018427387904 - x.n) : Ins x p w (x, 13)
  | zero (h : w ≤ 4611686018427387904 - x.n) (h0 : w = 0) : Ins x p w (x, 0)
  | more (h : w ≤ 4611686018427387904 - x.n) (h0 : w ≠ 0) (i : Nat) (c : Cnt) (hi : x.l[i]? = some c) (hp : c.1 = p) : Ins x p w ({ x with n := x.n + w, l := withC (x.l.eraseIdx i) (p, c.2.1 + w, c.2.2) }, 0)
  | evict (h : w ≤ 4611686018427387904 - x.n) (h0 : w ≠ 0) (hn : ¬ Has x.l p) (hk : (x.l.length : Int) = x.k) (i : Nat) (c : Cnt) (hi : x.l[i]? = some c) (hm : ∀ d ∈ x.l, c.2.1 < d.2.1 ∨ (c.2.1 = d.2.1 ∧ cmpP c.1 d.1 ≤ 0)) :
      Ins x p w ({ x with n := x.n + w, sl := c.2.1, l := withC (x.l.eraseIdx i) (p, c.2.1 + w, c.2.1) }, 0)
  | new (h : w ≤ 4611686018427387904 - x.n) (h0 : w ≠ 0) (hn : ¬ Has x.l p) (hk : (x.l.length : Int) < x.k) : Ins x p w ({ x with n := x.n + w, l := withC x.l (p, x.sl + w, x.sl) }, 0)
theorem ins_is {x : Sv} (hx : May x) (p : Pfx) (w : Int) : Ins x p w (ins x p w) := by
  unfold ins
  by_cases h : w > 4611686018427387904 - x.n
  · rw [if_pos h]; exact .over h
  rw [if_neg h]
  by_cases h0 : w = 0
  · rw [if_pos h0]; exact .zero (by omega) h0
  rw [if_neg h0]
  cases hp : placeC x.l p with
  | some i =>
    obtain ⟨c, hc, e⟩ := placeC_some hp
    simp only [hc]
    rw [e]
    exact .more (by omega) h0 i c hc e
  | none =>
    have hn := placeC_none hp
    simp only
    by_cases hk : (x.l.length : Int) = x.k
    · rw [if_pos hk]
      have hl : 0 < x.l.length := by have := hx.k1; omega
      have hf := firstC_le x.l (x.l.length - 1)
      have hc : x.l[firstC x.l (x.l.length - 1)]? = some (x.l[firstC x.l (x.l.length - 1)]'(by omega)) := List.getElem?_eq_getElem (by omega)
      generalize (x.l[firstC x.l (x.l.length - 1)]'(by omega)) = c at hc
      simp only [hc]
      refine .evict (by omega) h0 hn hk _ c hc fun d hd => ?_
      obtain ⟨j, hj⟩ := List.getElem?_of_mem hd
      exact firstC_least hx.asc _ (by omega) j c d (by have := (List.getElem?_eq_some_iff.1 hj).1; omega) hc hj
    · rw [if_neg hk]
      exact .new (by omega) h0 hn (by have := hx.len; omega)
theorem not_has_erase {l : List Cnt} (h : Asc l) {i : Nat} {c : Cnt} (hi : l[i]? = some c) : ¬ Has (l.eraseIdx i) c.1 := by
  rintro ⟨d, hd, e⟩
  have hp := erase_perm hi
  have : d = c := h.uniq (List.mem_of_mem_eraseIdx hd) (List.mem_of_getElem? hi) e
  subst this
  have hn : (d :: l.eraseIdx i).Pairwise fun a b => a ≠ b := hp.symm.pairwise (h.imp fun {a b} hab e => by subst e; rw [ord3P.refl] at hab; omega) fun h => Ne.symm h
  exact (List.pairwise_cons.1 hn).1 d hd rfl
theorem not_has_sub {l : List Cnt} {i : Nat} {p : Pfx} (h : ¬ Has l p) : ¬ Has (l.eraseIdx i) p := fun ⟨d, hd, e⟩ => h ⟨d, List.mem_of_mem_eraseIdx hd, e⟩
theorem May.ins {x : Sv} (hx : May x) {p : Pfx} {w : Int} (hw : 0 ≤ w) {y : Sv × Int} (h : Ins x p w y) : May y.1 := by
  cases h with
  | over h => exact hx
  | zero h h0 => exact hx
  | more h h0 i c hi hp =>
    have hc := List.mem_of_getElem? hi
    have hpm := withC_perm (x.l.eraseIdx i) (p, c.2.1 + w, c.2.2)
    have hpe := erase_perm hi
    have he := hx.each c hc
    have hel : (x.l.eraseIdx i).length + 1 = x.l.length := by have := hpe.length_eq; simpa using this
    have s1 := sumC_perm (f := fun c => c.2.1 - x.sl) hpe
    have s2 := sumC_perm (f := fun c => c.2.1 - c.2.2) hpe
    have s3 := sumC_perm (f := fun c => c.2.1) hpe
    have t1 := sumC_perm (f := fun c => c.2.1 - x.sl) hpm
    have t2 := sumC_perm (f := fun c => c.2.1 - c.2.2) hpm
    have t3 := sumC_perm (f := fun c => c.2.1) hpm
    simp only [sumC] at s1 s2 s3 t1 t2 t3
    have o1 := hx.over; have o2 := hx.low; have o3 := hx.n0
    refine ⟨hx.k1, hx.k2, by simp only; omega, by simp only; omega, hx.s0, ?_, withC_asc (asc_erase i hx.asc) (by have := not_has_erase hx.asc hi; rw [hp] at this; exact this), fun d hd => ?_, by simp only; omega, by simp only; omega, fun hs => ?_⟩
    · have := hpm.length_eq; have := hx.len; simp only [List.length_cons] at *; omega
    · have := hpm.mem_iff.1 hd
      rcases List.mem_cons.1 this with rfl | hd
      · simp only; omega
      · exact hx.each d (List.mem_of_mem_eraseIdx hd)
    · have := hx.all hs; simp only; omega
  | evict h h0 hn hk i c hi hm =>
    have hc := List.mem_of_getElem? hi
    have hpm := withC_perm (x.l.eraseIdx i) (p, c.2.1 + w, c.2.1)
    have hpe := erase_perm hi
    have he := hx.each c hc
    have hel : (x.l.eraseIdx i).length + 1 = x.l.length := by have := hpe.length_eq; simpa using this
    have hel' : ((x.l.eraseIdx i).length : Int) = x.k - 1 := by omega
    have s2 := sumC_perm (f := fun c => c.2.1 - c.2.2) hpe
    have s3 := sumC_perm (f := fun c => c.2.1) hpe
    have t1 := sumC_perm (f := fun d => d.2.1 - c.2.1) hpm
    have t2 := sumC_perm (f := fun c => c.2.1 - c.2.2) hpm
    have u1 := sumC_sub x.sl x.l
    have u2 := sumC_sub c.2.1 (x.l.eraseIdx i)
    simp only [sumC] at s2 s3 t1 t2
    rw [hel'] at u2
    rw [hk] at u1
    have o1 := hx.over; have o2 := hx.low; have o3 := hx.n0; have hs := hx.s0
    have m1 : c.2.1 * (x.k - 1) = c.2.1 * x.k - c.2.1 := by rw [Int.mul_sub, Int.mul_one]
    have m2 : x.sl * x.k = x.k * x.sl := Int.mul_comm _ _
    have m3 : c.2.1 * x.k = x.k * c.2.1 := Int.mul_comm _ _
    refine ⟨hx.k1, hx.k2, by simp only; omega, by simp only; omega, by simp only; omega, ?_, withC_asc (asc_erase i hx.asc) (not_has_sub hn), fun d hd => ?_, by simp only; omega, by simp only; omega, fun hs' => ?_⟩
    · have := hpm.length_eq; simp only [List.length_cons] at *; omega
    · have := hpm.mem_iff.1 hd
      rcases List.mem_cons.1 this with rfl | hd
      · simp only; omega
      · have hd' := List.mem_of_mem_eraseIdx hd
        have h1 := hx.each d hd'
        have h2 := hm d hd'
        simp only
        omega
    · simp only at hs'; omega
  | new h h0 hn hk =>
    have hpm := withC_perm x.l (p, x.sl + w, x.sl)
    have t1 := sumC_perm (f := fun c => c.2.1 - x.sl) hpm
    have t2 := sumC_perm (f := fun c => c.2.1 - c.2.2) hpm
    have t3 := sumC_perm (f := fun c => c.2.1) hpm
    simp only [sumC] at t1 t2 t3
    have o1 := hx.over; have o2 := hx.low; have o3 := hx.n0; have hs := hx.s0
    refine ⟨hx.k1, hx.k2, by simp only; omega, by simp only; omega, hs, ?_, withC_asc hx.asc hn, fun d hd => ?_, by simp only; omega, by simp only; omega, fun hs' => ?_⟩
    · have := hpm.length_eq; simp only [List.length_cons] at *; omega
    · have := hpm.mem_iff.1 hd
      rcases List.mem_cons.1 this with rfl | hd
      · simp only; omega
      · exact hx.each d hd
    · have := hx.all hs'; simp only at hs' ⊢; omega
theorem may_new {k : Int} (h1 : 1 ≤ k) (h2 : k ≤ 200) : May ⟨k, 0, 0, []⟩ :=
  ⟨h1, h2, Int.le_refl 0, by simp only; omega, Int.le_refl 0, by simp only [List.length_nil]; omega, List.Pairwise.nil, fun c hc => (by cases hc), by simp [sumC], by simp [sumC], fun _ => rfl⟩
end Go.Proofs.Ytcagnabglppenaa.Sv
namespace Go.Proofs.Ytcagnabglppenaa.Sv
open Go Go.RowKit Go.Vc Go.Proofs.Ytcagnabglppenaa.Fs Go.Proofs.Ytcagnabglppenaa.Px Go.Proofs.Ytcagnabglppenaa.Hq

theorem t66 : ∃ e, Try.prog.underlying 66 = some (.pointer e) := ⟨121, by kernel_rfl⟩
theorem t119 : Try.prog.underlying 119 = some (.map 65 27) := by kernel_rfl
theorem z27 : ∀ w, (zeroValue 27).run Try.prog w = .ok (.int .u64 0) w := by
  have h : (Try.prog.info? 27).map (fun i => i.zero) = some (some (.int .u64 0)) := by kernel_rfl
  exact run_zero (by unfold zeroOf; cases hi : Try.prog.info? 27 with
    | none => rw [hi] at h; cases h
    | some i => rw [hi] at h; simpa using h)
abbrev kv (p : Pfx) : Value := .agg (encP p).toArray
abbrev ev (e : Int) : Value := .int .u64 e
def it (c : Cnt) : Hq.Item := (c.1, c.2.1)
def headS (k n sl : Int) (Bh m : Nat) : Array Value := #[.int .i64 k, .int .u64 n, .int .u64 sl, .pointer (some ⟨Bh, 0, none⟩), .map (some m)]
structure SumP (W : World) (b Bh m : Nat) (Sh : Nat → Prop) (hl : List Hq.Item) (ef : Pfx → Option Int) (k n sl : Int) : Prop where
  hb : W.heap[b]? = some (.cells (headS k n sl Bh m) 121 (0, 0))
  hh : HeapS W Bh Sh hl
  hm : MapR W m kv ev ef
  bS : ¬ Sh b
  mS : ¬ Sh m
theorem SumP.bm {W : World} {b Bh m : Nat} {Sh : Nat → Prop} {hl : List Hq.Item} {ef : Pfx → Option Int} {k n sl : Int} (h : SumP W b Bh m Sh hl ef k n sl) : b ≠ m := by
  obtain ⟨es, c, h1, _⟩ := h.hm
  intro e; subst e; rw [h.hb] at h1; cases h1
theorem SumP.below {W W' : World} {b Bh m : Nat} {Sh : Nat → Prop} {hl : List Hq.Item} {ef : Pfx → Option Int} {k n sl : Int} (h : SumP W b Bh m Sh hl ef k n sl) (hb : Below W.heap.size W W') : SumP W' b Bh m Sh hl ef k n sl :=
  ⟨belowAt hb h.hb, h.hh.below hb, h.hm.of_heap (hb.block m h.hm.lt), h.bS, h.mS⟩
theorem SumP.fr {W W' : World} {T : Nat → Prop} {b Bh m : Nat} {Sh : Nat → Prop} {hl : List Hq.Item} {ef : Pfx → Option Int} {k n sl : Int} (h : SumP W b Bh m Sh hl ef k n sl) (hf : Fr T W W') (h1 : ¬ T b) (h2 : ¬ T m) (h3 : ∀ q, Sh q → ¬ T q) : SumP W' b Bh m Sh hl ef k n sl :=
  ⟨hf.at h1 h.hb, h.hh.fr hf h3, h.hm.of_heap (hf.blk m h.hm.lt h2), h.bS, h.mS⟩
/-- One of the numbers is written. -/
theorem SumP.store {W W' : World} {b Bh m : Nat} {Sh : Nat → Prop} {hl : List Hq.Item} {ef : Pfx → Option Int} {k n sl k' n' sl' : Int} (h : SumP W b Bh m Sh hl ef k n sl) (hb : W'.heap[b]? = some (.cells (headS k' n' sl' Bh m) 121 (0, 0))) (hf : Fr (fun q => q = b) W W') : SumP W' b Bh m Sh hl ef k' n' sl' :=
  ⟨hb, h.hh.fr hf fun _ hq e => h.bS (e ▸ hq), h.hm.of_heap (hf.blk m h.hm.lt (Ne.symm h.bm)), h.bS, h.mS⟩
theorem SumP.heap {W W' : World} {b Bh m : Nat} {Sh : Nat → Prop} {hl hl' : List Hq.Item} {ef : Pfx → Option Int} {k n sl : Int} (h : SumP W b Bh m Sh hl ef k n sl) (hh : HeapS W' Bh (Hq.grow Sh W W') hl') (hf : Fr Sh W W') : SumP W' b Bh m (Hq.grow Sh W W') hl' ef k n sl :=
  ⟨hf.at h.bS h.hb, hh, h.hm.of_heap (hf.blk m h.hm.lt h.mS), fun e => e.elim h.bS fun e => by have := heap_lt h.hb; omega, fun e => e.elim h.mS fun e => by have := h.hm.lt; omega⟩
theorem SumP.map {W : World} {b Bh m : Nat} {Sh : Nat → Prop} {hl : List Hq.Item} {ef ef' : Pfx → Option Int} {k n sl : Int} (h : SumP W b Bh m Sh hl ef k n sl) {o : Obj} (hm : MapR (World.setBlk W m o) m kv ev ef') : SumP (World.setBlk W m o) b Bh m Sh hl ef' k n sl :=
  ⟨(setBlk_other h.bm).trans h.hb, h.hh.fr (Fr.setBlk (S := fun q => q = m) rfl W o) fun _ hq e => h.mS (e ▸ hq), hm, h.bS, h.mS⟩
/-- A summary at b that holds x; what it holds lies in S. -/
def SumR (W : World) (b : Nat) (S : Nat → Prop) (x : Sv) : Prop := (∃ Bh m Sh hl ef, SumP W b Bh m Sh hl ef x.k x.n x.sl ∧ (∀ q, Sh q → S q) ∧ S b ∧ S m ∧ hl.Perm (x.l.map it) ∧ ∀ c ∈ x.l, ef c.1 = some c.2.2) ∧ ∀ q, S q → q < W.heap.size
theorem SumR.below {W W' : World} {b : Nat} {S : Nat → Prop} {x : Sv} (h : SumR W b S x) (hb : Below W.heap.size W W') : SumR W' b S x := by
  obtain ⟨⟨Bh, m, Sh, hl, ef, h1, h2⟩, h3⟩ := h
  exact ⟨⟨Bh, m, Sh, hl, ef, h1.below hb, h2⟩, fun q hq => Nat.lt_of_lt_of_le (h3 q hq) hb.size⟩
theorem SumR.fr {W W' : World} {T : Nat → Prop} {b : Nat} {S : Nat → Prop} {x : Sv} (h : SumR W b S x) (hf : Fr T W W') (hd : ∀ q, S q → ¬ T q) : SumR W' b S x := by
  obtain ⟨⟨Bh, m, Sh, hl, ef, h1, h2, h3, h4, h5⟩, h6⟩ := h
  exact ⟨⟨Bh, m, Sh, hl, ef, h1.fr hf (hd b h3) (hd m h4) (fun q hq => hd q (h2 q hq)), h2, h3, h4, h5⟩, fun q hq => Nat.lt_of_lt_of_le (h6 q hq) hf.size⟩
/-- What a summary says of a prefix. -/
def getC (l : List Cnt) (p : Pfx) : Option Cnt := l.find? fun c => isP c.1 p
theorem getC_some {l : List Cnt} {p : Pfx} {c : Cnt} (h : getC l p = some c) : c ∈ l ∧ c.1 = p := ⟨List.mem_of_find?_eq_some h, by have := List.find?_some (p := fun c : Cnt => isP c.1 p) h; exact isP_iff.1 this⟩
theorem getC_none {l : List Cnt} {p : Pfx} (h : getC l p = none) : ¬ Has l p := by
  rintro ⟨c, hc, e⟩
  have := List.find?_eq_none.1 h c hc
  exact this (isP_iff.2 e)
def highS (x : Sv) (p : Pfx) : Int := match getC x.l p with | some c => c.2.1 | none => x.sl
def lowS (x : Sv) (p : Pfx) : Int := match getC x.l p with | some c => c.2.1 - c.2.2 | none => 0
theorem key_it {hl : List Hq.Item} {l : List Cnt} (h : hl.Perm (l.map it)) (p : Pfx) : Key hl p ↔ Has l p := by
  constructor
  · rintro ⟨w, hw⟩
    obtain ⟨c, hc, e⟩ := List.mem_map.1 (h.mem_iff.1 hw)
    exact ⟨c, hc, congrArg Prod.fst e⟩
  · rintro ⟨c, hc, e⟩
    exact ⟨c.2.1, h.mem_iff.2 (List.mem_map.2 ⟨c, hc, by rw [← e]; rfl⟩)⟩
theorem made_gives {W : World} {b Bh m : Nat} {k n sl : Int} (hb : W.heap[b]? = some (.cells (headS k n sl Bh m) 121 (0, 0))) : Gives Try.prog 76 #[ptr b] W fun v W' => v = .bool true ∧ W' = W := F76_fn (by
  unfold F76
  obtain ⟨e, he⟩ := t66
  obtain ⟨e', he'⟩ := t118
  refine nil_ptr_neq he ⟨_, rfl, Join.use fun J hJ => If.pos rfl ?_⟩
  refine Ld1.ad hb (u := .pointer (some ⟨Bh, 0, none⟩)) rfl ⟨_, rfl, ?_⟩
  refine nil_ptr_neq he' ⟨_, rfl, ?_⟩
  rw [hJ]
  exact ⟨rfl, rfl⟩)
theorem made_nil {W : World} : Gives Try.prog 76 #[.pointer none] W fun v W' => v = .bool false ∧ W' = W := F76_fn (by
  unfold F76
  obtain ⟨e, he⟩ := t66
  refine nil_ptr_neq he ⟨_, rfl, Join.use fun J hJ => If.neg rfl ?_⟩
  rw [hJ]
  exact ⟨rfl, rfl⟩)
theorem new_out {k : Int} (hk : k < 1 ∨ 200 < k) {W : World} : Gives Try.prog 46 #[.int .i64 k] W fun v W' => v = .pointer none ∧ W' = W := F46_fn (by
  unfold F46
  refine Join.use fun J hJ => If.dec (fun h => ?_) fun h => ?_
  · rw [hJ]; exact If.pos rfl ⟨rfl, rfl⟩
  · rw [hJ]; exact If.pos (decide_eq_true (by omega)) ⟨rfl, rfl⟩)
theorem new_gives {k : Int} (h1 : 1 ≤ k) (h2 : k ≤ 200) {W : World} : Gives Try.prog 46 #[.int .i64 k] W fun v W' => ∃ b, v = ptr b ∧ SumR W' b (Hq.grow (fun _ => False) W W') ⟨k, 0, 0, []⟩ ∧ Below W.heap.size W W' := F46_fn (by
  unfold F46
  refine Join.use fun J hJ => If.dec (fun h => by omega) fun h => ?_
  rw [hJ]
  refine If.neg (decide_eq_false (by omega)) ?_
  refine CallK.mk Hq.new_gives ?_
  rintro _ W1 ⟨Bh, rfl, hh1, hb1, hB⟩
  refine ⟨_, rfl, ?_⟩
  refine NewM.mk fun m W2 hm hme hsz2 hb2 => ?_
  refine ⟨⟨rfl, by decide, rfl, by decide, rfl, by decide, trivial⟩, ?_⟩
  refine NewA.mk fun b W3 hb hbe hsz3 hb3 => ?_
  have hb' : W3.heap[b]? = some (.cells (headS k 0 0 Bh m) 121 (0, 0)) := hb
  have s1 := hb1.size
  have hb13 : Below W1.heap.size W1 W3 := hb2.trans (hb3.mono hb2.size)
  have hmr : MapR W3 m kv ev (fun _ => none) := ⟨#[], 0, belowAt hb3 hm, by simp, by simp, by simp⟩
  refine ⟨b, rfl, ⟨⟨Bh, m, _, [], fun _ => none, ⟨hb', hh1.below hb13, hmr, fun h => ?_, fun h => ?_⟩, fun q hq => ?_, .inr ⟨by omega, by omega⟩, .inr ⟨by omega, by omega⟩, List.Perm.refl _, fun c hc => (by cases hc)⟩, fun q hq => ?_⟩, hb1.trans (hb13.mono s1)⟩
  · have := hh1.2 b h; omega
  · have := hh1.2 m h; omega
  · have := hh1.2 q hq
    rcases hq with h | h
    · exact h.elim
    · exact .inr ⟨h.1, by omega⟩
  · rcases hq with h | h
    · exact h.elim
    · exact h.2)
theorem getP_gives {W : World} {b Bh m : Nat} {Sh : Nat → Prop} {hl : List Hq.Item} {ef : Pfx → Option Int} {k n sl : Int} {l : List Cnt} (h : SumP W b Bh m Sh hl ef k n sl) (hp : hl.Perm (l.map it)) (p : Pfx) :
    Gives Try.prog 77 #[ptr Bh, kv p] W fun v W' => v = (match getC l p with | some c => .tuple #[.int .u64 c.2.1, .bool true] | none => .tuple #[.int .u64 0, .bool false]) ∧ Below W.heap.size W W' := by
  refine (get_gives h.hh p).mono ?_
  rintro v W' ⟨hb, ⟨hn, rfl⟩ | ⟨w, hw, rfl⟩⟩
  · refine ⟨?_, hb⟩
    cases hg : getC l p with
    | none => rfl
    | some c => exact absurd ((key_it hp p).2 ⟨c, (getC_some hg).1, (getC_some hg).2⟩) hn
  · refine ⟨?_, hb⟩
    cases hg : getC l p with
    | none => exact absurd ((key_it hp p).1 ⟨w, hw⟩) (getC_none hg)
    | some c =>
      obtain ⟨h1, h2⟩ := getC_some hg
      have : (p, c.2.1) ∈ hl := hp.mem_iff.2 (List.mem_map.2 ⟨c, h1, by rw [← h2]; rfl⟩)
      simp only
      rw [h.hh.uniq.val hw this]
theorem high_gives {W : World} {b : Nat} {S : Nat → Prop} {x : Sv} (h : SumR W b S x) (p : Pfx) : Gives Try.prog 44 #[ptr b, kv p] W fun v W' => v = .int .u64 (highS x p) ∧ Below W.heap.size W W' := F44_fn (by
  unfold F44
  refine NewA.mk fun b3 W1 h3 hb3 hsz1 hbl1 => ?_
  obtain ⟨⟨Bh, m, Sh, hl, ef, h1, h2, hSb, hSm, hp, he⟩, hlt⟩ := h
  have h1' := h1.below hbl1
  refine CallK.mk (made_gives h1'.hb) ?_
  rintro _ W2 ⟨rfl, e2⟩
  obtain rfl := e2.symm
  refine ⟨_, rfl, If.neg rfl ?_⟩
  refine Ld1.ad h1'.hb (u := .pointer (some ⟨Bh, 0, none⟩)) rfl ⟨_, rfl, ?_⟩
  refine LdNC.mk h3 (cs := encP p) rfl rfl ?_
  refine CallQ.mk (fun W' hb => getP_gives (h1'.below hb) hp p) ?_
  unfold highS
  cases hg : getC x.l p with
  | none =>
    refine ⟨_, _, rfl, _, rfl, _, rfl, fun W3 hb3 => If.pos rfl ?_⟩
    exact Ld1.ad (h1'.below hb3).hb (u := .int .u64 x.sl) rfl ⟨_, rfl, rfl, hbl1.trans (hb3.mono hbl1.size)⟩
  | some c =>
    exact ⟨_, _, rfl, _, rfl, _, rfl, fun W3 hb3 => If.neg rfl ⟨rfl, hbl1.trans (hb3.mono hbl1.size)⟩⟩)
theorem low_gives {W : World} {b : Nat} {S : Nat → Prop} {x : Sv} (h : SumR W b S x) (hM : May x) (p : Pfx) : Gives Try.prog 45 #[ptr b, kv p] W fun v W' => v = .int .u64 (lowS x p) ∧ Below W.heap.size W W' := F45_fn (by
  unfold F45
  refine NewA.mk fun b3 W1 h3 hb3 hsz1 hbl1 => ?_
  obtain ⟨⟨Bh, m, Sh, hl, ef, h1, h2, hSb, hSm, hp, he⟩, hlt⟩ := h
  have h1' := h1.below hbl1
  refine CallK.mk (made_gives h1'.hb) ?_
  rintro _ W2 ⟨rfl, e2⟩
  obtain rfl := e2.symm
  refine ⟨_, rfl, If.neg rfl ?_⟩
  refine Ld1.ad h1'.hb (u := .pointer (some ⟨Bh, 0, none⟩)) rfl ⟨_, rfl, ?_⟩
  refine LdNC.mk h3 (cs := encP p) rfl rfl ?_
  refine CallQ.mk (fun W' hb => getP_gives (h1'.below hb) hp p) ?_
  unfold lowS
  cases hg : getC x.l p with
  | none => exact ⟨_, _, rfl, _, rfl, _, rfl, fun W3 hb3 => If.pos rfl ⟨rfl, hbl1.trans (hb3.mono hbl1.size)⟩⟩
  | some c =>
    obtain ⟨hc1, hc2⟩ := getC_some hg
    refine ⟨_, _, rfl, _, rfl, _, rfl, fun W3 hb3 => If.neg rfl ?_⟩
    refine Ld1.ad (h1'.below hb3).hb (u := .map (some m)) rfl ?_
    intro W4 hb4
    have hb14 := hb3.trans (hb4.mono hb3.size)
    refine LdNC.mk (belowAt hb14 h3) (cs := encP p) rfl rfl ?_
    have h4 := h1'.below hb14
    refine RunR.mk (u := .int .u64 c.2.2) (fun W' hb => ?_) ⟨_, rfl, ?_⟩
    · have := (h4.hm.of_heap (hb.block m h4.hm.lt)).lookup1 keyOK_P t119 z27 p
      rw [← hc2, he c hc1] at this
      rw [← hc2]
      exact this
    · have hce := hM.each c hc1
      have hcn := hM.le hc1
      have := hM.n1
      have hw := wrap_u64 (x := c.2.1 - c.2.2) (by omega) (by omega)
      simp only
      rw [hw]
      exact ⟨rfl, hbl1.trans (hb14.mono hbl1.size)⟩)
theorem low_nil {W : World} (p : Pfx) : Gives Try.prog 45 #[.pointer none, kv p] W fun v W' => v = .int .u64 0 ∧ Below W.heap.size W W' := F45_fn (by
  unfold F45
  refine NewA.mk fun b3 W1 h3 hb3 hsz1 hbl1 => ?_
  refine CallK.mk made_nil ?_
  rintro _ W2 ⟨rfl, e2⟩
  obtain rfl := e2.symm
  exact ⟨_, rfl, If.pos rfl ⟨rfl, hbl1⟩⟩)
theorem high_nil {W : World} (p : Pfx) : Gives Try.prog 44 #[.pointer none, kv p] W fun v W' => v = .int .u64 0 ∧ Below W.heap.size W W' := F44_fn (by
  unfold F44
  refine NewA.mk fun b3 W1 h3 hb3 hsz1 hbl1 => ?_
  refine CallK.mk made_nil ?_
  rintro _ W2 ⟨rfl, e2⟩
  obtain rfl := e2.symm
  exact ⟨_, rfl, If.pos rfl ⟨rfl, hbl1⟩⟩)
theorem insert_nil {W : World} (p : Pfx) (w : Int) : Gives Try.prog 49 #[.pointer none, kv p, .int .u64 w] W fun v W' => v = .int .i64 6 ∧ Below W.heap.size W W' := F49_fn (by
  unfold F49
  refine NewA.mk fun b3 W1 h3 hb3 hsz1 hbl1 => ?_
  refine CallK.mk made_nil ?_
  rintro _ W2 ⟨rfl, e2⟩
  obtain rfl := e2.symm
  exact ⟨_, rfl, If.pos rfl ⟨rfl, hbl1⟩⟩)
theorem perm_drop {hl hl' : List Hq.Item} {l : List Cnt} (hp : hl.Perm (l.map it)) (hu : Uniq hl) {i j : Nat} {c : Cnt} {w : Int} (hi : hl[i]? = some (c.1, w)) (hj : l[j]? = some c) (h' : hl'.Perm (hl.eraseIdx i)) : hl'.Perm ((l.eraseIdx j).map it) ∧ w = c.2.1 := by
  have hm : it c ∈ hl := hp.mem_iff.2 (List.mem_map.2 ⟨c, List.mem_of_getElem? hj, rfl⟩)
  have hw : w = c.2.1 := hu.val (List.mem_of_getElem? hi) hm
  subst hw
  refine ⟨?_, rfl⟩
  have h1 : (it c :: hl.eraseIdx i).Perm hl := erase_perm hi
  have h2 : (it c :: (l.eraseIdx j).map it).Perm (l.map it) := (erase_perm hj).map it
  exact h'.trans ((List.perm_cons (it c)).1 (h1.trans (hp.trans h2.symm)))
theorem asc_uniq {l : List Cnt} (h : Asc l) : Uniq (l.map it) := by
  unfold Uniq
  rw [List.pairwise_map]
  exact h.imp fun {a b} hab e => by have : a.1 = b.1 := e; rw [this, ord3P.refl] at hab; omega
/-- evict: the first count goes. -/
theorem evict_gives {W : World} {b : Nat} {S : Nat → Prop} {x : Sv} (h : SumR W b S x) {i : Nat} {c : Cnt} (hi : x.l[i]? = some c) (ha : Asc x.l) (hm : ∀ d ∈ x.l, c.2.1 < d.2.1 ∨ (c.2.1 = d.2.1 ∧ cmpP c.1 d.1 ≤ 0)) (hs : x.sl ≤ c.2.1) :
    Gives Try.prog 86 #[ptr b] W fun v W' => v = .tuple #[] ∧ SumR W' b (Hq.grow S W W') { x with sl := c.2.1, l := x.l.eraseIdx i } ∧ Fr S W W' := F86_fn (by
  unfold F86
  obtain ⟨⟨Bh, m, Sh, hl, ef, h1, h2, hSb, hSm, hp, he⟩, hlt⟩ := h
  refine Ld1.ad h1.hb (u := .pointer (some ⟨Bh, 0, none⟩)) rfl ⟨_, rfl, ?_⟩
  refine CallK.mk (least_gives h1.hh) ?_
  have hcm : it c ∈ hl := hp.mem_iff.2 (List.mem_map.2 ⟨c, List.mem_of_getElem? hi, rfl⟩)
  rintro _ W1 ⟨hb1, ⟨rfl, _⟩ | ⟨y, hy, hmin, rfl⟩⟩
  · cases hcm
  have hyc : y = it c := by
    refine leI_anti (hmin _ hcm) ?_
    obtain ⟨d, hd, rfl⟩ := List.mem_map.1 (hp.mem_iff.1 hy)
    rw [leI_iff]
    exact hm d hd
  subst hyc
  have h1a := h1.below hb1
  refine ⟨_, _, _, rfl, _, rfl, _, rfl, ?_⟩
  refine NewA.mk fun b2 W2 hb2 hbe hsz2 hbl2 => ?_
  refine StV.to hb2 (v := .agg (encP c.1).toArray) rfl (by decide) rfl (cs := (encP c.1).toArray) rfl fun W3 h3 hsz3 hf3 => ?_
  refine If.neg rfl ?_
  have f13 : Fr (fun q => q = b2) W1 W3 := (frOf hbl2).trans hf3
  have hb2n : ∀ q, q < W1.heap.size → q ≠ b2 := fun q hq e => by omega
  have h1b : SumP W3 b Bh m Sh hl ef x.k x.n x.sl := h1a.fr f13 (hb2n b (heap_lt h1a.hb)) (hb2n m h1a.hm.lt) fun q hq => hb2n q (h1a.hh.2 q hq)
  refine Ld1.ad h1b.hb (u := .pointer (some ⟨Bh, 0, none⟩)) rfl ⟨_, rfl, ?_⟩
  intro W4 hb4
  have h1c := h1b.below hb4
  have h34 := belowAt hb4 h3
  refine LdNC.mk h34 (cs := encP c.1) rfl rfl ?_
  refine CallK.mk (drop_gives h1c.hh c.1) ?_
  rintro v W5 (⟨hn, _⟩ | ⟨j, w, hj, rfl, ⟨hl', hh5, hp5⟩, hf5⟩)
  · exact absurd ⟨_, hcm⟩ hn
  obtain ⟨hpd, rfl⟩ := perm_drop hp h1.hh.uniq hj hi hp5
  have h1d := h1c.heap hh5 hf5
  refine ⟨_, rfl, ?_⟩
  refine Ld1.ad h1d.hb (u := .map (some m)) rfl ?_
  intro W6 hb6
  have h1e := h1d.below hb6
  have hShlt : ∀ q, Sh q → q < W.heap.size := h1.hh.2
  have z1 := hb1.size; have z3 := f13.size; have z4 := hb4.size; have z5 := hf5.size; have z6 := hb6.size
  have h35 := hf5.at (fun h => by have := hShlt _ h; omega) h34
  have h36 := belowAt hb6 h35
  refine LdNC.mk h36 (cs := encP c.1) rfl rfl ?_
  obtain ⟨o, ho1, ho2⟩ := h1e.hm.delete (P := Try.prog) (kt' := 65) (ty := 0) keyOK_P t119 c.1
  refine ⟨_, _, ho1, ?_⟩
  have h1f := h1e.map ho2
  refine Ld1.ad h1f.hb (u := .int .u64 x.sl) rfl ⟨_, rfl, ?_⟩
  have hmax : (if (it c).2 > x.sl then (it c).2 else x.sl) = c.2.1 := by
    have : (it c).2 = c.2.1 := rfl
    rw [this]
    split <;> omega
  dsimp only
  rw [hmax]
  refine StV.ad1 h1f.hb (v := .int .u64 c.2.1) rfl (show 0 + 2 < 5 by decide) rfl fun W8 hb8 hsz8 hf8 => ?_
  have h1g := h1f.store (k' := x.k) (n' := x.n) (sl' := c.2.1) hb8 hf8
  have hfr : Fr S W W8 := by
    have g1 : Fr S W W4 := ((frOf (S := S) hb1).trans' f13 (fun q hq hlt => by omega)).trans (frOf hb4)
    have g2 : Fr S W W6 := (g1.trans' hf5 fun q hq _ => h2 q hq).trans (frOf hb6)
    exact (g2.trans (Fr.setBlk hSm _ _)).trans (hf8.mono fun q _ e => by subst e; exact hSb)
  refine ⟨rfl, ⟨⟨Bh, m, _, hl', _, h1g, fun q hq => ?_, .inl hSb, .inl hSm, hpd, fun d hd => ?_⟩, fun q hq => ?_⟩, hfr⟩
  · rcases hq with h | h
    · exact .inl (h2 q h)
    · exact .inr ⟨by omega, by have := hf8.size; rw [setBlk_size] at this; omega⟩
  · have hd' : d ∈ x.l := List.mem_of_mem_eraseIdx hd
    have hne : d.1 ≠ c.1 := fun e => not_has_erase ha hi ⟨d, hd, e⟩
    rw [upd_other _ _ hne]
    exact he d hd'
  · rcases hq with h | h
    · exact Nat.lt_of_lt_of_le (hlt q h) hfr.size
    · exact h.2)
/-- Insert. -/
theorem insert_gives {W : World} {b : Nat} {S : Nat → Prop} {x : Sv} (h : SumR W b S x) (hM : May x) (p : Pfx) (w : Int) (hw : 0 ≤ w ∧ w < 18446744073709551616) :
    Gives Try.prog 49 #[ptr b, kv p, .int .u64 w] W fun v W' => v = .int .i64 (ins x p w).2 ∧ SumR W' b (Hq.grow S W W') (ins x p w).1 ∧ Fr S W W' := F49_fn (by
  unfold F49
  have hI := ins_is hM p w
  generalize hy : ins x p w = y at hI
  refine NewA.mk fun b4 W1 h4 hb4 hsz1 hbl1 => ?_
  obtain ⟨⟨Bh, m, Sh, hl, ef, h1, h2, hSb, hSm, hp, he⟩, hlt⟩ := h
  have hS4 : ∀ q, S q → q ≠ b4 := fun q hq e => by have := hlt q hq; omega
  have h1a := h1.below hbl1
  refine CallK.mk (made_gives h1a.hb) ?_
  rintro _ W2 ⟨rfl, e2⟩
  obtain rfl := e2.symm
  refine ⟨_, rfl, If.neg rfl ?_⟩
  refine Ld1.ad h1a.hb (u := .int .u64 x.n) rfl ⟨_, rfl, ?_⟩
  have n0 := hM.n0; have n1 := hM.n1
  dsimp only
  rw [wrap_u64 (x := 4611686018427387904 - x.n) (by omega) (by omega)]
  have same : ∀ W', Below W.heap.size W W' → SumR W' b (Hq.grow S W W') x ∧ Fr S W W' := fun W' hb =>
    ⟨⟨⟨Bh, m, Sh, hl, ef, h1.below hb, fun q hq => .inl (h2 q hq), .inl hSb, .inl hSm, hp, he⟩, fun q hq => hq.elim (fun h => Nat.lt_of_lt_of_le (hlt q h) hb.size) fun h => h.2⟩, frOf hb⟩
  refine If.dec (fun hov => ?_) fun hok => ?_
  · cases hI with
    | over h => exact ⟨rfl, same _ hbl1⟩
    | zero h _ => omega
    | more h _ => omega
    | evict h _ => omega
    | new h _ => omega
  refine If.beq (fun hz => ?_) fun hnz => ?_
  · cases hI with
    | over h => omega
    | zero h _ => exact ⟨rfl, same _ hbl1⟩
    | more h h0 => omega
    | evict h h0 => omega
    | new h h0 => omega
  refine Ld1.ad h1a.hb (u := .int .u64 x.n) rfl ⟨_, rfl, ?_⟩
  dsimp only
  rw [wrap_u64 (x := x.n + w) (by omega) (by omega)]
  refine StV.ad1 h1a.hb (v := .int .u64 (x.n + w)) rfl (show 0 + 1 < 5 by decide) rfl fun W3 hb3 hsz3 hf3 => ?_
  have h1b := h1a.store (k' := x.k) (n' := x.n + w) (sl' := x.sl) hb3 hf3
  have h43 := hf3.at (Ne.symm (hS4 b hSb)) h4
  refine Ld1.ad h1b.hb (u := .pointer (some ⟨Bh, 0, none⟩)) rfl ⟨_, rfl, ?_⟩
  refine LdNC.mk h43 (cs := encP p) rfl rfl ?_
  intro W4 hbl4
  have h1c := h1b.below hbl4
  have h44 := belowAt hbl4 h43
  have f04 : Fr S W W4 := ((frOf hbl1).trans (hf3.mono fun q _ e => by subst e; exact hSb)).trans (frOf hbl4)
  have z4 := f04.size
  refine CallK.mk (raise_gives h1c.hh p w hw) ?_
  rintro v W5 (⟨hn, rfl, hb5⟩ | ⟨i, u, hiu, hcase⟩)
  · -- it is not counted
    have hnl : ¬ Has x.l p := fun hh => hn ((key_it hp p).2 hh)
    refine ⟨_, rfl, If.neg rfl ?_⟩
    have h1d := h1c.below hb5
    have h45 := belowAt hb5 h44
    have f05 : Fr S W W5 := f04.trans (frOf hb5)
    refine Ld1.ad h1d.hb (u := .pointer (some ⟨Bh, 0, none⟩)) rfl ⟨_, rfl, ?_⟩
    have hll : hl.length = x.l.length := by rw [hp.length_eq, List.length_map]
    refine CallQ.mk (v := .int .i64 (hl.length : Int)) (fun W' hb => (Hq.len_gives (h1d.hh.below hb)).mono fun v W'' ⟨e1, e2⟩ => ⟨e1, by rw [e2]; exact Below.refl _ _⟩) ⟨_, rfl, ?_⟩
    refine Ld1.mk h1d.hb (u := .int .i64 x.k) rfl ⟨_, rfl, ?_⟩
    intro W6 hb6
    have h1e := h1d.below hb6
    have h46 := belowAt hb6 h45
    have f06 : Fr S W W6 := f05.trans (frOf hb6)
    have z6 := f06.size
    refine Join.use fun J hJ => ?_
    -- what is left to do
    have rest : ∀ (W7 : World) (S7 : Nat → Prop) (x7 : Sv), SumR W7 b S7 x7 → Fr S W W7 → (∀ q, S7 q → S q ∨ (W.heap.size ≤ q ∧ q ≠ b4)) → W7.heap[b4]? = some (.cells (encP p).toArray 65 (0, 0)) → ¬ Has x7.l p → Asc x7.l → 0 ≤ x7.sl → x7.sl + w < 18446744073709551616 → x7.l.length < 1000 →
        y = ({ x7 with l := withC x7.l (p, x7.sl + w, x7.sl) }, 0) → J W7 := by
      intro W7 S7 x7 hr f07 hS7 h47 hn7 ha7 hs0 hsw hl7 hy7
      obtain ⟨⟨Bh7, m7, Sh7, hl7', ef7, r1, r2, rb, rm, rp, re⟩, rlt⟩ := hr
      rw [hJ]
      refine Ld1.ad r1.hb (u := .map (some m7)) rfl ?_
      refine LdNC.mk h47 (cs := encP p) rfl rfl ?_
      intro W8 hb8
      have r1a := r1.below hb8
      refine Ld1.ad r1a.hb (u := .int .u64 x7.sl) rfl ⟨_, rfl, ?_⟩
      obtain ⟨o, ho1, ho2⟩ := r1a.hm.update (P := Try.prog) keyOK_P t119 p x7.sl
      refine ⟨_, ho1, ?_⟩
      have r1b := r1a.map ho2
      have hb4m : b4 ≠ m7 := fun e => by rcases hS7 m7 rm with h | h; exact hS4 m7 h e.symm; exact h.2 e.symm
      have h48 : (World.setBlk W8 m7 o).heap[b4]? = _ := (setBlk_other hb4m).trans (belowAt hb8 h47)
      refine Ld1.ad r1b.hb (u := .pointer (some ⟨Bh7, 0, none⟩)) rfl ⟨_, rfl, ?_⟩
      refine LdNC.mk h48 (cs := encP p) rfl rfl ?_
      refine Ld1.ad r1b.hb (u := .int .u64 x7.sl) rfl ⟨_, rfl, ?_⟩
      intro W10 hb10
      have r1c := r1b.below hb10
      rw [wrap_u64 (x := x7.sl + w) (by omega) (by omega)]
      have hlen7 : hl7'.length = x7.l.length := by rw [rp.length_eq, List.length_map]
      refine CallK.mk (add_gives r1c.hh p (x7.sl + w) (by omega) (by omega)) ?_
      rintro v W11 (⟨hk, _⟩ | ⟨_, rfl, ⟨l', hh11, hp11⟩, hf11⟩)
      · exact absurd ((key_it rp p).1 hk) hn7
      refine ⟨_, rfl, ?_⟩
      have r1d := r1c.heap hh11 hf11
      have z7 := f07.size; have z8 := hb8.size; have z10 := hb10.size; have z11 := hf11.size
      rw [setBlk_size] at z10
      have g10 : Fr (fun q => S7 q) W7 W11 := ((((frOf (S := S7) hb8).trans (Fr.setBlk rm _ _)).trans (frOf hb10)).trans' hf11 fun q hq _ => r2 q hq)
      have g11 : Fr S W W11 := f07.trans' g10 fun q hq hqlt => (hS7 q hq).resolve_right (by omega)
      rw [hy7]
      refine ⟨rfl, ⟨⟨Bh7, m7, _, l', _, r1d, fun q hq => ?_, ?_, ?_, ?_, fun d hd => ?_⟩, fun q hq => ?_⟩, g11⟩
      · rcases hq with h | h
        · have := rlt q (r2 q h)
          rcases hS7 q (r2 q h) with h' | h'
          · exact .inl h'
          · exact .inr ⟨h'.1, by omega⟩
        · exact .inr ⟨by omega, h.2⟩
      · rcases hS7 b rb with h' | h'
        · exact .inl h'
        · exact .inr ⟨h'.1, by have := rlt b rb; omega⟩
      · rcases hS7 m7 rm with h' | h'
        · exact .inl h'
        · exact .inr ⟨h'.1, by have := rlt m7 rm; omega⟩
      · have hw := (withC_perm x7.l (p, x7.sl + w, x7.sl)).map it
        refine (hp11.trans (rp.append (List.Perm.refl _))).trans (List.perm_append_comm.trans hw.symm)
      · rcases List.mem_cons.1 ((withC_perm x7.l (p, x7.sl + w, x7.sl)).mem_iff.1 hd) with rfl | hd
        · exact upd_same _ _ _
        · have hne : d.1 ≠ p := fun e => hn7 ⟨d, hd, e⟩
          rw [upd_other _ _ hne]; exact re d hd
      · rcases hq with h | h
        · exact Nat.lt_of_lt_of_le (hlt q h) g11.size
        · exact h.2
    have hk2 := hM.k2
    have hlen := hM.len
    have hsln := hM.sln
    have hs0 := hM.s0
    have hR6 : SumR W6 b S { x with n := x.n + w } := ⟨⟨Bh, m, Sh, hl, ef, h1e, h2, hSb, hSm, hp, he⟩, fun q hq => Nat.lt_of_lt_of_le (hlt q hq) z6⟩
    refine If.dec (fun hge => ?_) fun hlt' => ?_
    · cases hI with
      | over h => omega
      | zero h h0 => omega
      | more h h0 i c hi hpc => exact absurd ⟨c, List.mem_of_getElem? hi, hpc⟩ hnl
      | new h h0 hn' hk => omega
      | evict h h0 hn' hk i c hi hm =>
        have hc := List.mem_of_getElem? hi
        have hce := hM.each c hc
        have hcn := hM.le hc
        refine CallK.mk (evict_gives hR6 hi hM.asc hm hce.1) ?_
        rintro _ W7 ⟨rfl, hR7, hf7⟩
        refine rest W7 _ _ hR7 (f06.trans hf7) (fun q hq => ?_) ?_ (not_has_sub hn') (asc_erase i hM.asc) (by simp only; omega) (by simp only; omega) ?_ rfl
        · rcases hq with h | h
          · exact .inl h
          · exact .inr ⟨by omega, by have := heap_lt h46; omega⟩
        · exact hf7.at (fun h => hS4 b4 h rfl) h46
        · have := List.length_eraseIdx_le x.l i; simp only; omega
    · cases hI with
      | over h => omega
      | zero h h0 => omega
      | more h h0 i c hi hpc => exact absurd ⟨c, List.mem_of_getElem? hi, hpc⟩ hnl
      | evict h h0 hn' hk => omega
      | new h h0 hn' hk =>
        exact rest W6 S _ hR6 f06 (fun q hq => .inl hq) h46 hn' hM.asc hs0 (by simp only; omega) (by simp only; omega) rfl
  · -- it is counted
    have hk : Has x.l p := (key_it hp p).1 ⟨u, List.mem_of_getElem? hiu⟩
    obtain ⟨c, hc, hcp⟩ := hk
    have hcm : (p, c.2.1) ∈ hl := hp.mem_iff.2 (List.mem_map.2 ⟨c, hc, by rw [← hcp]; rfl⟩)
    have hu : u = c.2.1 := h1.hh.uniq.val (List.mem_of_getElem? hiu) hcm
    subst hu
    have hcn := hM.le hc
    rcases hcase with ⟨hov, _⟩ | ⟨_, rfl, ⟨l', hh5, hp5⟩, hf5⟩
    · omega
    refine ⟨_, rfl, If.pos rfl ?_⟩
    have h1d := h1c.heap hh5 hf5
    have f05 : Fr S W W5 := f04.trans' hf5 fun q hq _ => h2 q hq
    have z5 := hf5.size
    cases hI with
    | over h => omega
    | zero h h0 => omega
    | evict h h0 hn' => exact absurd ⟨c, hc, hcp⟩ hn'
    | new h h0 hn' => exact absurd ⟨c, hc, hcp⟩ hn'
    | more h h0 j d hj hpd =>
      have hdc : d = c := hM.asc.uniq (List.mem_of_getElem? hj) hc (hpd.trans hcp.symm)
      subst hdc
      refine ⟨rfl, ⟨⟨Bh, m, _, l', ef, h1d, fun q hq => ?_, .inl hSb, .inl hSm, ?_, fun e he' => ?_⟩, fun q hq => ?_⟩, f05⟩
      · rcases hq with h' | h'
        · exact .inl (h2 q h')
        · exact .inr ⟨by omega, h'.2⟩
      · have hw := (withC_perm (x.l.eraseIdx j) (p, d.2.1 + w, d.2.2)).map it
        have h6 := (perm_drop hp h1.hh.uniq (by rw [hpd]; exact hiu) hj (List.Perm.refl _)).1
        exact ((hp5.trans (set_perm _ hiu)).trans ((List.perm_cons _).2 h6)).trans hw.symm
      · rcases List.mem_cons.1 ((withC_perm (x.l.eraseIdx j) (p, d.2.1 + w, d.2.2)).mem_iff.1 he') with rfl | he'
        · have := he d hc; rw [hpd] at this; exact this
        · exact he e (List.mem_of_mem_eraseIdx he')
      · rcases hq with h' | h'
        · exact Nat.lt_of_lt_of_le (hlt q h') f05.size
        · exact h'.2)
end Go.Proofs.Ytcagnabglppenaa.Sv
namespace Go.Proofs.Ytcagnabglppenaa.Sv
open Go Go.RowKit Go.Vc Go.Proofs.Ytcagnabglppenaa.Fs Go.Proofs.Ytcagnabglppenaa.Px Go.Proofs.Ytcagnabglppenaa.Hq

def encN (c : Cnt) : List Value := encP c.1 ++ [.int .u64 c.2.1, .int .u64 c.2.2]
theorem encN_len (c : Cnt) : (encN c).length = 14 := rfl
theorem encN_one : ∀ (x : Cnt), ∀ u ∈ encN x, u.oneCell' = true := fun x u hu => by
  simp only [encN, encP, List.cons_append, List.nil_append, List.mem_cons, List.not_mem_nil, or_false] at hu
  rcases hu with rfl | rfl | rfl | rfl | rfl | rfl | rfl | rfl | rfl | rfl | rfl | rfl | rfl | rfl <;> rfl
theorem t50 : Try.prog.underlying 50 = some (.slice 86) := by kernel_rfl
theorem i86 : ∃ i, Try.prog.info? 86 = some i ∧ i.zero = some (.agg (zeroP ++ [Value.int .u64 0, Value.int .u64 0]).toArray) ∧ i.size = 14 ∧ i.bytes = 128 := by
  have h : (Try.prog.info? 86).map (fun i => (i.zero, i.size, i.bytes)) = some (some (.agg (zeroP ++ [Value.int .u64 0, Value.int .u64 0]).toArray), 14, 128) := by kernel_rfl
  cases hi : Try.prog.info? 86 with
  | none => rw [hi] at h; cases h
  | some i => rw [hi] at h; simp only [Option.map_some, Option.some.injEq, Prod.mk.injEq] at h; exact ⟨i, rfl, h.1, h.2.1, h.2.2⟩
theorem c89 : Ok Try.prog 89 := ⟨by kernel_rfl⟩
def cmpN (a b : Cnt) : Int := cmpP a.1 b.1
theorem by_gives (a b : Cnt) (W : World) : Gives Try.prog 89 #[.agg (encN a).toArray, .agg (encN b).toArray] W fun v W' => v = .int .i64 (cmpN a b) ∧ Below W.heap.size W W' := F89_fn (by
  unfold F89
  refine NewA.mk fun b1 W1 h1 _ _ hb1 => NewA.mk fun b2 W2 h2 _ _ hb2 => ?_
  refine LdNC.mk (belowAt hb2 h1) (cs := encP a.1) rfl rfl ?_
  refine LdNC.mk h2 (cs := encP b.1) rfl rfl ?_
  refine CallK.mk (pcmp_gives a.1 b.1 W2) ?_
  rintro _ W3 ⟨rfl, hb3⟩
  have h12 := hb1.trans (hb2.mono hb1.size)
  exact ⟨_, rfl, rfl, h12.trans (hb3.mono h12.size)⟩)
theorem sortN_nil {a : Option Addr} {c : Nat} {fv : Value} {W : World} : Gives Try.prog 88 #[.slice a 0 c, fv] W fun v W' => v = .tuple #[] ∧ W' = W := F88_fn (by
  unfold F88
  refine CallK.mk (Sx.len_gives 0 (by omega) W) ?_
  rintro _ W0 ⟨e, n, rfl, _⟩
  obtain rfl := e.symm
  refine ⟨_, rfl, ?_⟩
  refine CallK.mk (Q := fun v W' => v = .tuple #[] ∧ W' = W) (F117_fn ?_) ?_
  · unfold F117
    refine Lp.enc (fun s : Int × Bool × Int × Bool × Int => [.int .i64 s.1, .bool s.2.1, .int .i64 s.2.2.1, .bool s.2.2.2.1, .int .i64 s.2.2.2.2])
      (fun s t hst => by simp at hst; exact Prod.ext hst.1 (Prod.ext hst.2.1 (Prod.ext hst.2.2.1 (Prod.ext hst.2.2.2.1 hst.2.2.2.2))))
      (fun s W' => s.2.2.1 = 0 ∧ s.2.2.2.2 = 0 ∧ W' = W) (fun _ _ => 0) ((n : Int), true, 0, true, 0) rfl ⟨rfl, rfl, rfl⟩ ?_
    rintro ⟨lm, b11, _, b10, _⟩ W1 k ⟨rfl, rfl, rfl⟩ hk
    refine AsI.mk (AsB.mk (AsI.mk (AsB.mk (AsI.mk (Join.use fun J hJ => If.pos rfl ?_)))))
    refine CallK.mk (Q := fun v W' => v = .tuple #[] ∧ W' = W1) (F136_fn ?_) ?_
    · unfold F136
      exact Lp.i1 (fun x W' => x = 1 ∧ W' = W1) (fun _ _ => 0) ⟨rfl, rfl⟩ (by
        rintro _ W2 k2 ⟨rfl, rfl⟩ _
        exact ⟨_, rfl, If.neg rfl ⟨rfl, rfl⟩⟩)
    · rintro _ _ ⟨rfl, rfl⟩; exact ⟨rfl, rfl⟩
  · rintro _ _ ⟨rfl, rfl⟩; exact ⟨rfl, rfl⟩)
theorem le_N (x y : Cnt) : SrSq.Le cmpN x y ↔ cmpP x.1 y.1 ≤ 0 := by
  unfold SrSq.Le cmpN
  have := ord3P.sym x.1 y.1
  omega
theorem toN : SrSq.TO cmpN := ⟨fun x y => by rw [le_N, le_N]; have := ord3P.sym x.1 y.1; omega, fun x y z => by rw [le_N, le_N, le_N]; exact ord3P.tr _ _ _⟩
theorem sortN_gives {W : World} {u : Value} {l : List Cnt} (hs : SlR W 86 14 encN u l) (hlen : l.length < 1099511627776) {a : Option Addr} {n c : Nat} (hu : u = .slice a n c) :
    Gives Try.prog 88 #[.slice a n c, .func (.func 89) #[] #[]] W fun v W' => v = .tuple #[] ∧ ∃ d, d.Perm l ∧ d.Pairwise (fun x y => cmpP x.1 y.1 ≤ 0) ∧ SlR W' 86 14 encN u d ∧ Fr (fun q => u.ownBlock = some q) W W' := by
  have hs1 := hs
  rcases hs.2 with ⟨rfl, hl0⟩ | ⟨g, cap, cur, rfl, _, hg, _⟩
  · cases hu
    refine sortN_nil.mono ?_
    rintro _ _ ⟨rfl, rfl⟩
    have : l = [] := List.eq_nil_of_length_eq_zero hl0
    subst this
    exact ⟨rfl, [], List.Perm.refl _, List.Pairwise.nil, hs1, Fr.refl _ _⟩
  · cases hu
    have hg1 := heap_lt hg
    have E : SE Try.prog encN 14 cmpN (.func (.func 89) #[] #[]) g W.heap.size (fun _ => True) :=
      ⟨encN_len, fun _ => rfl, fun W2 x y _ => YieldK.func c89 (by simpa using by_gives x y W2) (fun _ _ h => h), fun _ _ _ _ => trivial, hg1⟩
    have hS : SS encN 14 86 g W.heap.size c (fun _ => True) W l := ⟨trivial, Nat.le_refl _, hs1⟩
    refine (SrSq.sort_gives toN E hS hlen).mono ?_
    rintro _ W2 ⟨rfl, d, h2, hp, hf, hsrt⟩
    have hdl := hp.length_eq
    refine ⟨rfl, d, hp, List.pairwise_iff_getElem.2 fun i j hi hj hij => ?_, hdl ▸ h2.r, hf.mono fun q hq h => ?_⟩
    · exact (le_N _ _).1 (hsrt i j _ _ (Nat.zero_le _) hij (by omega) (List.getElem?_eq_getElem hi) (List.getElem?_eq_getElem hj))
    · rcases h with h | h
      · subst h; rfl
      · omega
theorem sorted_ex (l : List Hq.Item) : ∃ ls : List Hq.Item, ls.Perm l ∧ ls.Pairwise leI := by
  refine ⟨l.mergeSort (fun x y => decide (cmpI x y ≤ 0)), List.mergeSort_perm _ _, ?_⟩
  have := List.pairwise_mergeSort (le := fun x y : Hq.Item => decide (cmpI x y ≤ 0)) (fun a b c h1 h2 => by
    simp only [decide_eq_true_eq] at *; exact leI_tr a b c h1 h2) (fun a b => by
    have := leI_tot a b; unfold leI at this; simpa using this) l
  exact this.imp fun h => of_decide_eq_true h
theorem all87_gives {W : World} (p : Option Addr) : Gives Try.prog 87 #[.pointer p] W fun v W' => ∃ q, v = .func (.func 113) #[] #[.pointer (some ⟨q, 0, none⟩)] ∧ W'.heap[q]? = some (.cells #[.pointer p] 118 (0, 0)) ∧ Below W.heap.size W W' := F87_fn (by
  unfold F87
  exact NewA.mk fun q W' hq _ _ hb => ⟨q, rfl, hq, hb⟩)
def toC (ef : Pfx → Option Int) (i : Hq.Item) : Cnt := (i.1, i.2, (ef i.1).getD 0)
theorem toC_it {ef : Pfx → Option Int} {c : Cnt} (h : ef c.1 = some c.2.2) : toC ef (it c) = c := by
  unfold toC it
  simp only
  rw [h]; rfl
def svV (x : Sv) (u : Value) : Value := .agg #[.int .i64 x.k, .int .u64 x.n, .int .u64 x.sl, u]
theorem asc_of {l d : List Cnt} (h : Asc l) (hp : d.Perm l) (hd : d.Pairwise fun x y => cmpP x.1 y.1 ≤ 0) : d = l := by
  have h1 : l.Pairwise fun x y => x.1 ≠ y.1 := h.imp fun {a b} hab e => by rw [e, ord3P.refl] at hab; omega
  have h2 : d.Pairwise fun x y => x.1 ≠ y.1 := hp.symm.pairwise h1 fun h => Ne.symm h
  refine asc_one hp ((hd.and h2).imp fun {a b} ⟨k1, k2⟩ => ?_) h
  have : cmpP a.1 b.1 ≠ 0 := fun e => k2 (cmpP_zero e)
  omega
abbrev zS : Array Value := #[.int .i64 0, .int .u64 0, .int .u64 0, .slice none 0 0]
theorem state_gives {W : World} {b : Nat} {S : Nat → Prop} {x : Sv} (h : SumR W b S x) (hM : May x) :
    Gives Try.prog 50 #[ptr b] W fun v W' => ∃ u, v = svV x u ∧ SlR W' 86 14 encN u x.l ∧ (∀ g, u.ownBlock = some g → W.heap.size ≤ g) ∧ Below W.heap.size W W' := F50_fn (by
  unfold F50
  refine NewA.mk fun b1 W1 h1 hb1 hsz1 hbl1 => NewA.mk fun b2 W2 h2 hb2 hsz2 hbl2 => ?_
  obtain ⟨⟨Bh, m, Sh, hl, ef, hs, hsub, hSb, hSm, hp, he⟩, hlt⟩ := h
  have hB2 : Below W.heap.size W W2 := hbl1.trans (hbl2.mono hbl1.size)
  have hbW := hlt b hSb
  have hmW := hlt m hSm
  have hsF : ∀ W', Fr (fun q => W.heap.size ≤ q) W W' → SumP W' b Bh m Sh hl ef x.k x.n x.sl := fun W' hf => hs.fr hf (by omega) (by omega) fun q hq => by have := hs.hh.2 q hq; omega
  have h12 := belowAt hbl2 h1
  have hs2 := hs.below hB2
  refine Ld1.mk h12 (u := ptr b) rfl ⟨_, rfl, ?_⟩
  refine CallK.mk (made_gives hs2.hb) ?_
  rintro _ W0 ⟨rfl, e⟩
  obtain rfl := e.symm
  refine ⟨_, rfl, If.neg rfl ?_⟩
  refine Ld1.mk h12 (u := ptr b) rfl ⟨_, rfl, ?_⟩
  refine Ld1.mk hs2.hb (u := .int .i64 x.k) rfl ⟨_, rfl, ?_⟩
  refine Ld1.mk h12 (u := ptr b) rfl ⟨_, rfl, ?_⟩
  refine Ld1.ad hs2.hb (u := .int .u64 x.n) rfl ⟨_, rfl, ?_⟩
  refine Ld1.mk h12 (u := ptr b) rfl ⟨_, rfl, ?_⟩
  refine Ld1.ad hs2.hb (u := .int .u64 x.sl) rfl ⟨_, rfl, ?_⟩
  refine ⟨⟨rfl, by decide, rfl, by decide, rfl, by decide, trivial⟩, ?_⟩
  intro W3 hb3
  refine NewA.mk fun b3 W4 h3 hb3e hsz4 hbl4 => ?_
  have hB3 : Below W.heap.size W W3 := hB2.trans (hb3.mono hB2.size)
  have hB4 : Below W.heap.size W W4 := hB3.trans (hbl4.mono hB3.size)
  have h14 := belowAt hbl4 (belowAt hb3 h12)
  have h24 := belowAt hbl4 (belowAt hb3 h2)
  have hs4 := hs.below hB4
  have s3 := hb3.size
  refine StL.mk h14 (u := ptr b) rfl ?_
  refine StL.mk hs4.hb (u := .int .i64 x.k) rfl ?_
  refine StL.mk h14 (u := ptr b) rfl ?_
  refine StL.ad hs4.hb (u := .int .u64 x.n) rfl ?_
  refine StL.mk h14 (u := ptr b) rfl ?_
  refine StL.ad hs4.hb (u := .int .u64 x.sl) rfl ?_
  refine StV.to h3 (v := .agg #[.int .i64 x.k, .int .u64 x.n, .int .u64 x.sl, .slice none 0 0]) rfl (by decide) rfl (cs := #[.int .i64 x.k, .int .u64 x.n, .int .u64 x.sl, .slice none 0 0]) rfl fun W5 h35 hsz5 hf5 => ?_
  have h15 := hf5.at (by omega) h14
  have h25 := hf5.at (by omega) h24
  have fW5 : Fr (fun q => W.heap.size ≤ q) W W5 := (frOf hB4).trans' hf5 (fun q hq hlt => by omega)
  have hs5 := hsF W5 fW5
  refine Ld1.mk h15 (u := ptr b) rfl ⟨_, rfl, ?_⟩
  refine Ld1.ad hs5.hb (u := ptr Bh) rfl ⟨_, rfl, ?_⟩
  refine CallK.mk (all87_gives _) ?_
  rintro _ W6 ⟨f1, rfl, hf1, hb6⟩
  have fW6 : Fr (fun q => W.heap.size ≤ q) W W6 := fW5.trans (frOf hb6)
  have h16 := belowAt hb6 h15
  have h26 := belowAt hb6 h25
  have h36 := belowAt hb6 h35
  refine ⟨113, #[], #[.pointer (some ⟨f1, 0, none⟩)], rfl, c113.get, fun rc hrc Y => ?_⟩
  generalize hWs : (W6.alloc (.deferred (some []))).alloc (rc .ready none) = Ws
  have hblS : Below W6.heap.size W6 Ws := by rw [← hWs]; exact ((Below.refl _ W6).alloc (Nat.le_refl _) _).alloc (by simp) _
  have hWD : Ws.heap[W6.heap.size]? = some (.deferred (some [])) := by rw [← hWs]; exact alloc_other alloc_same
  have hWL : Ws.heap[W6.heap.size + 1]? = some (rc .ready none) := by
    rw [← hWs]
    have := alloc_same (W := W6.alloc (.deferred (some []))) (o := rc .ready none)
    rwa [alloc_size] at this
  have hWsz : Ws.heap.size = W6.heap.size + 2 := by rw [← hWs, alloc_size, alloc_size]
  have s6 := hb6.size
  have b1lt := heap_lt h16
  have b2lt := heap_lt h26
  have b3lt := heap_lt h36
  obtain ⟨ls, hpl, hol⟩ := sorted_ex hl
  have hlen : ls.length ≤ 200 := by
    have := hpl.length_eq
    have := hp.length_eq
    rw [List.length_map] at this
    have := hM.len
    have := hM.k2
    omega
  let I : List Hq.Item → (Nat → Prop) → World → Prop := fun pre S' W' => ∃ u, S' = (fun q => q = b3 ∨ q = W6.heap.size ∨ q = W6.heap.size + 1 ∨ u.ownBlock = some q) ∧ W'.heap[b1]? = some (.cells #[ptr b] 66 (0, 0)) ∧ W'.heap[b2]? = some (.cells zS 52 (0, 0)) ∧
    W'.heap[b3]? = some (.cells #[.int .i64 x.k, .int .u64 x.n, .int .u64 x.sl, u] 52 (0, 0)) ∧ SlR W' 86 14 encN u (pre.map (toC ef)) ∧ (∀ g, u.ownBlock = some g → W6.heap.size + 2 ≤ g) ∧
    W'.heap[W6.heap.size]? = some (.deferred (some [])) ∧ W'.heap[W6.heap.size + 1]? = some (rc .ready none) ∧ Fr (fun q => W.heap.size ≤ q) W W' ∧ Ws.heap.size ≤ W'.heap.size
  have Hit : It Try.prog (W6.heap.size + 1) argKW ls Ws.heap.size I (fun _ => False) := by
    refine ⟨?_, ?_, ?_, ?_⟩
    · rintro pre y post S' W7 k hls ⟨u, rfl, q1, q2, q3, hsu, hown, hD, hL, hfr, hsz⟩ hk _
      obtain ⟨a, cp, rfl⟩ := hsu.shape
      have hy : y ∈ hl := hpl.mem_iff.1 (by rw [hls]; simp)
      obtain ⟨c, hc, rfl⟩ := List.mem_map.1 (hp.mem_iff.1 hy)
      have hec := he c hc
      refine Y _ _ _ rfl hL ?_
      refine ⟨_, rfl, ?_⟩
      refine NewA.mk fun b4 W8 h4 hb4 hsz8 hbl8 => ?_
      refine StV.to h4 (v := .agg (encP c.1).toArray) rfl (by decide) rfl (cs := (encP c.1).toArray) rfl fun W9 h49 hsz9 hf9 => ?_
      have f79 : Fr (fun q => W7.heap.size ≤ q) W7 W9 := (frOf hbl8).trans (hf9.mono fun q _ e => by omega)
      have hL9 := f79.at (by omega) hL
      refine ⟨hL9, ?_⟩
      generalize hW10 : World.setBlk W9 (W6.heap.size + 1) (rc .busy none) = W10
      have f910 : Fr (fun q => q = W6.heap.size + 1) W9 W10 := by rw [← hW10]; exact Fr.setBlk (S := fun q => q = W6.heap.size + 1) rfl _ _
      have hL10 : W10.heap[W6.heap.size + 1]? = some (rc .busy none) := by rw [← hW10]; exact setBlk_same hL9
      have q110 := f910.at (by omega) (f79.at (by omega) q1)
      have q210 := f910.at (by omega) (f79.at (by omega) q2)
      have q310 := f910.at (by omega) (f79.at (by omega) q3)
      have hD10 := f910.at (by omega) (f79.at (by omega) hD)
      have h410 := f910.at (by omega) h49
      have hsu10 : SlR W10 86 14 encN (.slice a (pre.map (toC ef)).length cp) (pre.map (toC ef)) := hsu.of_heap fun g hg => by
        have h1 := hsu.lt hg
        have h2 := hown g hg
        rw [f910.blk g (by have := f79.size; omega) (by omega), f79.blk g h1 (by omega)]
      have fW10 : Fr (fun q => W.heap.size ≤ q) W W10 := (hfr.trans' f79 fun q hq hlt => by have := hfr.size; omega).trans' f910 fun q hq hlt => by have := fW6.size; omega
      have hs10 := hsF W10 fW10
      refine Ld1.ad q310 (u := .slice a (pre.map (toC ef)).length cp) rfl ⟨_, _, _, rfl, ?_⟩
      refine LdNC.mk h410 (cs := encP c.1) rfl rfl ?_
      refine Ld1.mk q110 (u := ptr b) rfl ⟨_, rfl, ?_⟩
      refine Ld1.ad hs10.hb (u := .map (some m)) rfl ?_
      intro W11 hb11
      have h411 := belowAt hb11 h410
      refine LdNC.mk h411 (cs := encP c.1) rfl rfl ?_
      have hs11 := hs10.below hb11
      refine RunR.mk (u := .int .u64 c.2.2) (fun W' hb => ?_) ⟨_, rfl, ?_⟩
      · have := (hs11.hm.of_heap (hb.block m hs11.hm.lt)).lookup1 keyOK_P t119 z27 c.1
        rw [hec] at this
        exact this
      refine ⟨⟨rfl, by decide, rfl, by decide, rfl, by decide, trivial⟩, ?_⟩
      refine NewSC.mk (cs := (encN c).toArray) ⟨rfl, by decide, trivial⟩ (by kernel_rfl) fun q W12 hq12 hqe hsz12 hb12 => ?_
      have hB12 : Below W10.heap.size W10 W12 := hb11.trans (hb12.mono hb11.size)
      obtain ⟨inf, hi1, hi2, hi3, hi4⟩ := i86
      have hsu12 := hsu10.bel hB12
      have hpl' : pre.length + 1 ≤ ls.length := by rw [hls]; simp
      have q112 := belowAt hB12 q110
      have q212 := belowAt hB12 q210
      have q312 := belowAt hB12 q310
      have hL12 := belowAt hB12 hL10
      have hD12 := belowAt hB12 hD10
      refine StL.ad q312 (u := .slice a (pre.map (toC ef)).length cp) rfl ?_
      obtain ⟨v', W13, hrun, hs13, hgr, hown13⟩ := hsu12.append (P := Try.prog) (ty := 50) (ys := [c]) (c := 1) (a := ⟨q, 0, none⟩) encN_len encN_one t50 hi1 hi2 hi3 hi4 rfl (by decide) (cells_row (by simpa using hq12)) (by simp; omega) (by simp [maxLen]; omega)
      refine ⟨v', W13, hrun, ?_⟩
      obtain ⟨a', c', hv'⟩ := hs13.shape
      refine AsL.mk hv' ?_
      have z79 := f79.size; have z910 := f910.size; have z12 := hB12.size; have z13 := hgr.size; have z7 := hfr.size; have z6 := fW6.size
      have hown13' : ∀ g, v'.ownBlock = some g → W6.heap.size + 2 ≤ g ∧ ((Value.slice a (pre.map (toC ef)).length cp).ownBlock = some g ∨ W7.heap.size ≤ g) := fun g hg => by
        rcases hown13 with e | e
        · rw [e] at hg; exact ⟨hown g hg, .inl hg⟩
        · rw [e] at hg; cases hg; exact ⟨by omega, .inr (by omega)⟩
      have ne : ∀ z, z < W6.heap.size + 2 → some z ≠ (Value.slice a (pre.map (toC ef)).length cp).ownBlock := fun z hz e => by have := hown z e.symm; omega
      have q113 := (hgr.block b1 (by omega) (ne _ (by omega))).trans q112
      have q213 := (hgr.block b2 (by omega) (ne _ (by omega))).trans q212
      have q313 := (hgr.block b3 (by omega) (ne _ (by omega))).trans q312
      have hL13 := (hgr.block _ (by omega) (ne _ (by omega))).trans hL12
      have hD13 := (hgr.block _ (by omega) (ne _ (by omega))).trans hD12
      rw [← hv']
      have hv1 : v'.cells = #[v'] ∧ oneC v' = true := by rw [hv']; exact ⟨rfl, rfl⟩
      refine StV.ad1 q313 hv1.1 (show 0 + 3 < 4 by decide) hv1.2 fun W14 q314 hsz14 hf14 => ?_
      have hL14 := hf14.at (by omega) hL13
      refine ⟨hL14, ?_⟩
      generalize hW15 : World.setBlk W14 (W6.heap.size + 1) (rc .ready none) = W15
      have f1415 : Fr (fun q => q = W6.heap.size + 1) W14 W15 := by rw [← hW15]; exact Fr.setBlk (S := fun q => q = W6.heap.size + 1) rfl _ _
      have hL15 : W15.heap[W6.heap.size + 1]? = some (rc .ready none) := by rw [← hW15]; exact setBlk_same hL14
      have z15 := f1415.size
      have hs15 : SlR W15 86 14 encN v' ((pre ++ [it c]).map (toC ef)) := by
        rw [List.map_append, List.map_singleton, toC_it hec]
        exact hs13.of_heap fun g hg => by
          have h1 := hs13.lt hg
          have h2 := hown13' g hg
          rw [f1415.blk g (by omega) (by omega), hf14.blk g h1 (by omega)]
      have f715 : Fr (fun q => q = b3 ∨ q = W6.heap.size ∨ q = W6.heap.size + 1 ∨ (Value.slice a (pre.map (toC ef)).length cp).ownBlock = some q) W7 W15 := by
        have g1 : Fr (fun q => q = b3 ∨ q = W6.heap.size ∨ q = W6.heap.size + 1 ∨ (Value.slice a (pre.map (toC ef)).length cp).ownBlock = some q) W7 W9 := f79.mono fun q hq hlt => by omega
        have g2 := (g1.trans' f910 fun q hq _ => .inr (.inr (.inl hq))).trans (frOf hB12)
        have g3 := g2.trans' (Fr.grown (S := fun q => (Value.slice a (pre.map (toC ef)).length cp).ownBlock = some q) hgr (fun k hk => hk)) fun q hq _ => .inr (.inr (.inr hq))
        exact (g3.trans' hf14 fun q hq _ => .inl hq).trans' f1415 fun q hq _ => .inr (.inr (.inl hq))
      refine hk (fun q => q = b3 ∨ q = W6.heap.size ∨ q = W6.heap.size + 1 ∨ v'.ownBlock = some q) W15 ⟨v', rfl, f1415.at (by omega) (hf14.at (by omega) q113), f1415.at (by omega) (hf14.at (by omega) q213), f1415.at (by omega) q314, hs15, fun g hg => (hown13' g hg).1, f1415.at (by omega) (hf14.at (by omega) hD13), hL15, hfr.trans' f715 (fun q hq hlt => ?_), by omega⟩ ?_ f715
      · rcases hq with rfl | rfl | rfl | hq
        · omega
        · omega
        · omega
        · have := hown q hq; omega
      · rintro q (rfl | rfl | rfl | hq)
        · exact .inl (.inl rfl)
        · exact .inl (.inr (.inl rfl))
        · exact .inl (.inr (.inr (.inl rfl)))
        · rcases (hown13' q hq).2 with h | h
          · exact .inl (.inr (.inr (.inr h)))
          · exact .inr h
    · rintro pre S' W7 W8 ⟨u, rfl, q1, q2, q3, hsu, hown, hD, hL, hfr, hsz⟩ hf
      exact ⟨u, rfl, hf.at (by omega) q1, hf.at (by omega) q2, hf.at (by omega) q3, hsu.of_heap (fun g hg => hf.blk g (hsu.lt hg) (fun h => h.2 (.inr (.inr (.inr hg))))), hown, hf.at (fun h => h.2 (.inr (.inl rfl))) hD, hf.at (fun h => h.2 (.inr (.inr (.inl rfl)))) hL,
          hfr.trans' hf (fun q hq hlt => by have := hq.1; have := fW6.size; omega), by have := hf.size; omega⟩
    · rintro pre S' W7 q ⟨u, rfl, q1, q2, q3, hsu, hown, hD, hL, hfr, hsz⟩ hq
      rcases hq with rfl | rfl | rfl | hq
      · exact heap_lt q3
      · exact heap_lt hD
      · exact heap_lt hL
      · exact hsu.lt hq
    · rintro pre S' W7 ⟨u, rfl, q1, q2, q3, hsu, hown, hD, hL, hfr, hsz⟩
      exact hsz
  have fWs : Fr (fun q => W.heap.size ≤ q) W Ws := fW6.trans (frOf hblS)
  have hI0 : I [] (fun q => q = b3 ∨ q = W6.heap.size ∨ q = W6.heap.size + 1 ∨ (Value.slice none 0 0).ownBlock = some q) Ws :=
    ⟨.slice none 0 0, rfl, belowAt hblS h16, belowAt hblS h26, belowAt hblS h36, SlR.nil _ _, fun g hg => (by cases hg), hWD, hWL, fWs, Nat.le_refl _⟩
  refine (Hq.all_gives Hit hI0 (belowAt hblS hf1) (hsF Ws fWs).hh hpl hol).mono ?_
  rintro _ W7 (⟨S', u, rfl, q1, q2, q3, hsu, hown, hD, hL, hfr, hsz⟩ | h)
  · refine ⟨.ready, none, nofun, hL, .inl ⟨rfl, ?_⟩⟩
    generalize hW8 : World.setBlk W7 (W6.heap.size + 1) (rc .exhausted none) = W8
    have f78 : Fr (fun q => q = W6.heap.size + 1) W7 W8 := by rw [← hW8]; exact Fr.setBlk (S := fun q => q = W6.heap.size + 1) rfl _ _
    obtain ⟨a, cp, hue⟩ := hsu.shape
    have hsu8 : SlR W8 86 14 encN u (ls.map (toC ef)) := hsu.fr f78 fun g hg e => by have := hown g hg; omega
    have q38 := f78.at (by omega) q3
    refine Ld1.ad q38 (u := u) rfl ⟨a, _, cp, hue, ?_⟩
    refine CallK.mk (sortN_gives hsu8 (by rw [List.length_map]; omega) hue) ?_
    rintro _ W9 ⟨rfl, d, hpd, hod, hs9, hf9⟩
    have hpx : d.Perm x.l := by
      refine hpd.trans ((hpl.map (toC ef)).trans ((hp.map (toC ef)).trans ?_))
      rw [List.map_map]
      have : x.l.map (toC ef ∘ it) = x.l.map id := List.map_congr_left fun c hc => toC_it (he c hc)
      rw [this, List.map_id]
    obtain rfl := asc_of hM.asc hpx hod
    have hu9 : ∀ z, z < W6.heap.size + 2 → ¬ u.ownBlock = some z := fun z hz e => by have := hown z e; omega
    refine LdNC.mk (hf9.at (hu9 _ (by omega)) q38) (cs := [.int .i64 x.k, .int .u64 x.n, .int .u64 x.sl, u]) rfl rfl ?_
    have h29 := hf9.at (hu9 _ (by omega)) (f78.at (by omega) q2)
    have z9 := hf9.size
    refine StV.to h29 (v := .agg #[.int .i64 x.k, .int .u64 x.n, .int .u64 x.sl, u]) rfl (by decide) (by rw [hue]; rfl) (cs := #[.int .i64 x.k, .int .u64 x.n, .int .u64 x.sl, u]) rfl fun W10 h210 hsz10 hf10 => ?_
    have hD10 := hf10.at (by omega) (hf9.at (hu9 _ (by omega)) (f78.at (by omega) hD))
    refine ⟨hD10, ?_⟩
    refine LdNC.mk ((setBlk_other (by omega)).trans h210) (cs := [.int .i64 x.k, .int .u64 x.n, .int .u64 x.sl, u]) rfl rfl ?_
    have z78 := f78.size; have z6 := fW6.size
    have fin : Fr (fun q => W.heap.size ≤ q) W W10 := ((hfr.trans' f78 fun q hq _ => by omega).trans' hf9 fun q hq _ => by have := hown q hq; omega).trans' hf10 fun q hq _ => by omega
    refine ⟨u, rfl, ?_, fun g hg => by have := hown g hg; omega, (fin.trans (Fr.setBlk (by omega) _ _)).bel⟩
    refine (hs9.fr hf10 fun g hg e => by have := hown g hg; omega).of_heap fun g hg => setBlk_other (by have := hown g hg; omega)
  · exact h.elim)
theorem state_nil {W : World} : Gives Try.prog 50 #[.pointer none] W fun v W' => v = .agg zS ∧ Below W.heap.size W W' := F50_fn (by
  unfold F50
  refine NewA.mk fun b1 W1 h1 hb1 hsz1 hbl1 => NewA.mk fun b2 W2 h2 hb2 hsz2 hbl2 => ?_
  have hB2 : Below W.heap.size W W2 := hbl1.trans (hbl2.mono hbl1.size)
  refine Ld1.mk (belowAt hbl2 h1) (u := .pointer none) rfl ⟨_, rfl, ?_⟩
  refine CallK.mk made_nil ?_
  rintro _ W0 ⟨rfl, e⟩
  obtain rfl := e.symm
  refine ⟨_, rfl, If.pos rfl ⟨trivial, ?_⟩⟩
  refine StV.to h2 (v := .agg zS) rfl (by decide) rfl (cs := zS) rfl fun W3 h3 hsz3 hf3 => ?_
  refine LdNC.mk h3 (cs := zS.toList) rfl rfl ⟨rfl, ?_⟩
  exact ((frOf (S := fun q => W.heap.size ≤ q) hB2).trans' hf3 fun q hq _ => by omega).bel)
end Go.Proofs.Ytcagnabglppenaa.Sv
namespace Go.Proofs.Ytcagnabglppenaa.Sv
open Go Go.RowKit Go.Vc Go.Proofs.Ytcagnabglppenaa.Fs Go.Proofs.Ytcagnabglppenaa.Px Go.Proofs.Ytcagnabglppenaa.Hq

theorem nsucc {a : Nat} (hb : a < 4398046511104) : IntKind.i64.wrap ((a : Int) + 1) = ((a + 1 : Nat) : Int) := by rw [wrap_i64] <;> omega
theorem npred {a : Nat} (h : 0 < a) (hb : a < 4398046511104) : IntKind.i64.wrap ((a : Int) - 1) = ((a - 1 : Nat) : Int) := by rw [wrap_i64] <;> omega
structure Wf (x : Sv) : Prop where
  k : -9223372036854775808 ≤ x.k ∧ x.k ≤ 9223372036854775807
  n : 0 ≤ x.n ∧ x.n < 18446744073709551616
  sl : 0 ≤ x.sl ∧ x.sl < 18446744073709551616
  l : ∀ c ∈ x.l, (0 ≤ c.2.1 ∧ c.2.1 < 18446744073709551616) ∧ 0 ≤ c.2.2 ∧ c.2.2 < 18446744073709551616
theorem May.wf {x : Sv} (h : May x) : Wf x := by
  have k1 := h.k1; have k2 := h.k2; have n0 := h.n0; have n1 := h.n1; have s0 := h.s0; have sn := h.sln
  exact ⟨by omega, by omega, by omega, fun c hc => by have := h.each c hc; have := h.le hc; omega⟩
theorem sumC_append {f : Cnt → Int} : ∀ (l d : List Cnt), sumC f (l ++ d) = sumC f l + sumC f d
  | [], d => by simp [sumC]
  | x :: l, d => by simp only [List.cons_append, sumC, sumC_append l d]; omega
theorem sumC_take {f : Cnt → Int} {l : List Cnt} {i : Nat} {c : Cnt} (hi : l[i]? = some c) : sumC f (l.take (i + 1)) = sumC f (l.take i) + f c := by
  rw [← (take_step hi).2, sumC_append]; simp [sumC]
theorem sumC_part {f : Cnt → Int} {l : List Cnt} (hf : ∀ c ∈ l, 0 ≤ f c) (i : Nat) : sumC f (l.take i) ≤ sumC f l := by
  have : sumC f l = sumC f (l.take i) + sumC f (l.drop i) := by rw [← sumC_append, List.take_append_drop]
  have := sumC_nonneg (f := f) (l := l.drop i) fun c hc => hf c (List.mem_of_mem_drop hc)
  omega
theorem asc_step {l : List Cnt} {i : Nat} {x y : Cnt} (h : Asc (l.take (i + 1))) (hx : l[i]? = some x) (hy : l[i + 1]? = some y) (hlt : cmpP x.1 y.1 < 0) : Asc (l.take (i + 1 + 1)) := by
  rw [← (take_step hy).2]
  refine List.pairwise_append.2 ⟨h, List.pairwise_singleton _ _, fun a ha b hb => ?_⟩
  rw [List.mem_singleton] at hb
  subst hb
  rw [← (take_step hx).2] at ha h
  rcases List.mem_append.1 ha with ha | ha
  · exact lt_tr ((List.pairwise_append.1 h).2.2 a ha x (by simp)) hlt
  · rw [List.mem_singleton] at ha; subst ha; exact hlt
theorem inOrder_gives {W : World} {l : List Cnt} {a : Option Addr} {n c : Nat} (hr : RdL W 14 encN a l) (hn : n = l.length) (hlen : l.length ≤ 200) :
    Gives Try.prog 73 #[.slice a n c] W fun v W' => (∃ r, v = .bool r ∧ (r = true ↔ Asc l)) ∧ Below W.heap.size W W' := F73_fn (by
  unfold F73
  refine Lp.enc (fun s : Bool × Int => [.bool s.1, .int .i64 s.2]) (fun s t hst => by simp at hst; exact Prod.ext hst.1 hst.2)
    (fun s W' => ∃ j : Nat, s.2 = (j : Int) ∧ 1 ≤ j ∧ j ≤ 201 ∧ Asc (l.take j) ∧ Below W.heap.size W W') (fun s _ => (300 - s.2).toNat) (false, 1) rfl ⟨1, rfl, by omega, by omega, ?_, Below.refl _ _⟩ ?_
  · cases l with
    | nil => exact List.Pairwise.nil
    | cons z r => exact List.pairwise_singleton _ _
  rintro ⟨b, x⟩ W1 k ⟨j, hx, h1, h2, ha, hb⟩ hk
  simp only at hx
  subst hx
  refine AsB.mk (AsI.mk ?_)
  refine If.dec (fun hlt => ?_) fun hge => ?_
  · have hjl : j < l.length := by omega
    obtain ⟨i, rfl⟩ : ∃ i, j = i + 1 := ⟨j - 1, by omega⟩
    rw [npred (by omega) (by omega)]
    have hx : l[i]? = some (l[i]'(by omega)) := List.getElem?_eq_getElem (by omega)
    have hy : l[i + 1]? = some (l[i + 1]'hjl) := List.getElem?_eq_getElem hjl
    generalize (l[i]'(by omega)) = x at hx
    generalize (l[i + 1]'hjl) = y at hy
    refine (hr.bel hb).get encN_len hn (by omega) hx ?_
    intro W2 hb2
    have hb12 := hb.trans (hb2.mono hb.size)
    refine (hr.bel hb12).get encN_len hn rfl hy ?_
    refine CallK.mk (by_gives x y W2) ?_
    rintro _ W3 ⟨rfl, hb3⟩
    have hb13 := hb12.trans (hb3.mono hb12.size)
    refine ⟨_, rfl, If.dec (fun hc => ?_) fun hc => ?_⟩
    · refine ⟨⟨false, rfl, ?_⟩, hb13⟩
      constructor
      · intro h; cases h
      · intro h
        obtain ⟨hil, ei⟩ := List.getElem?_eq_some_iff.1 hx
        obtain ⟨hjl', ej⟩ := List.getElem?_eq_some_iff.1 hy
        have := List.pairwise_iff_getElem.1 h i (i + 1) hil hjl' (by omega)
        rw [ei, ej] at this
        unfold cmpN at hc
        omega
    · show k [.bool b, .int .i64 (IntKind.i64.wrap (((i + 1 : Nat) : Int) + 1))] W3
      rw [nsucc (by omega)]
      refine hk (b, ((i + 1 + 1 : Nat) : Int)) W3 ⟨i + 1 + 1, rfl, by omega, by omega, asc_step ha hx hy (by unfold cmpN at hc; omega), hb13⟩ (by simp only; omega)
  · refine ⟨⟨true, rfl, ⟨fun _ => ?_, fun _ => rfl⟩⟩, hb⟩
    rwa [List.take_of_length_le (by omega)] at ha)
structure Wi (x : Sv) : Prop where
  s : x.k * x.sl ≤ x.n
  each : ∀ c ∈ x.l, x.sl ≤ c.2.1 ∧ c.2.2 ≤ x.sl ∧ c.2.2 < c.2.1
  over : sumC (fun c => c.2.1 - x.sl) x.l + x.k * x.sl ≤ x.n
  low : sumC (fun c => c.2.1 - c.2.2) x.l ≤ x.n
  all : x.sl = 0 → sumC (fun c => c.2.1) x.l = x.n
def hdS (x : Sv) (a : Option Addr) (n c : Nat) : List Value := [.int .i64 x.k, .int .u64 x.n, .int .u64 x.sl, .slice a n c]
theorem within_gives {W : World} {x : Sv} {a : Option Addr} {n c : Nat} (hw : Wf x) (hk : 1 ≤ x.k ∧ x.k ≤ 200) (hn62 : x.n ≤ 4611686018427387904) (hr : RdL W 14 encN a x.l) (hn : n = x.l.length) (hlen : x.l.length ≤ 200) :
    Gives Try.prog 74 #[.agg (hdS x a n c).toArray] W fun v W' => (∃ r, v = .bool r ∧ (r = true ↔ Wi x)) ∧ Below W.heap.size W W' := F74_fn (by
  unfold F74
  refine NewA.mk fun b1 W1 h1 hb1 hsz1 hbl1 => ?_
  refine Ld1.ad h1 (u := .int .u64 x.sl) rfl ⟨_, rfl, ?_⟩
  refine Ld1.ad h1 (u := .int .u64 x.n) rfl ⟨_, rfl, ?_⟩
  intro W2 hb2
  have hB2 : Below W.heap.size W W2 := hbl1.trans (hb2.mono hbl1.size)
  have h2 := belowAt hb2 h1
  refine Ld1.mk h2 (u := .int .i64 x.k) rfl ⟨_, rfl, ?_⟩
  obtain ⟨n0, n1⟩ := hw.n
  obtain ⟨sl0, sl1⟩ := hw.sl
  dsimp only
  rw [wrap_u64 (x := x.k) (by omega) (by omega)]
  refine ⟨by omega, ?_⟩
  have hdv : x.n.tdiv x.k = x.n / x.k := Int.tdiv_eq_ediv_of_nonneg n0
  have hd0 : 0 ≤ x.n / x.k := Int.ediv_nonneg n0 (by omega)
  have hd1 : x.n / x.k ≤ x.n := Int.ediv_le_self _ n0
  have hdm := Int.le_ediv_iff_mul_le (c := x.k) (a := x.sl) (b := x.n) (by omega)
  rw [hdv, wrap_u64 hd0 (by omega)]
  have hcm : x.k * x.sl = x.sl * x.k := Int.mul_comm _ _
  refine If.dec (fun hgt => ?_) fun hle => ?_
  · exact ⟨⟨false, rfl, ⟨fun h => (by cases h), fun h => by have := h.s; omega⟩⟩, hB2⟩
  have hs : x.k * x.sl ≤ x.n := by omega
  have hs0 : 0 ≤ x.k * x.sl := Int.mul_nonneg (by omega) sl0
  refine Ld1.ad h2 (u := .int .u64 x.n) rfl ⟨_, rfl, ?_⟩
  refine Ld1.mk h2 (u := .int .i64 x.k) rfl ⟨_, rfl, ?_⟩
  refine Ld1.ad h2 (u := .int .u64 x.sl) rfl ⟨_, rfl, ?_⟩
  refine Ld1.ad h2 (u := .int .u64 x.n) rfl ⟨_, rfl, ?_⟩
  refine Ld1.ad h2 (u := .int .u64 x.n) rfl ⟨_, rfl, ?_⟩
  intro W3 hb3
  have hB3 : Below W.heap.size W W3 := hB2.trans (hb3.mono hB2.size)
  have h3 := belowAt hb3 h2
  refine Ld1.ad h3 (u := .slice a n c) rfl ⟨_, _, _, rfl, ?_⟩
  dsimp only
  rw [wrap_u64 (x := x.k) (by omega) (by omega), wrap_u64 hs0 (by omega), wrap_u64 (x := x.n - x.k * x.sl) (by omega) (by omega)]
  have hb1lt := heap_lt h1
  refine Lp.enc (fun s : Bool × Int × Int × Int × Int => [.bool s.1, .int .u64 s.2.1, .int .u64 s.2.2.1, .int .u64 s.2.2.2.1, .int .i64 s.2.2.2.2])
      (fun s t hst => by simp at hst; exact Prod.ext hst.1 (Prod.ext hst.2.1 (Prod.ext hst.2.2.1 (Prod.ext hst.2.2.2.1 hst.2.2.2.2))))
      (fun s W' => ∃ i : Nat, s.2.2.2.2 = (i : Int) ∧ i ≤ x.l.length ∧ s.2.1 = x.n - x.k * x.sl - sumC (fun c => c.2.1 - x.sl) (x.l.take i) ∧ 0 ≤ s.2.1 ∧ s.2.2.1 = x.n - sumC (fun c => c.2.1 - c.2.2) (x.l.take i) ∧ 0 ≤ s.2.2.1 ∧
        0 ≤ s.2.2.2.1 ∧ s.2.2.2.1 ≤ x.n ∧ (x.sl = 0 → s.2.2.2.1 = s.2.1) ∧ (∀ c ∈ x.l.take i, x.sl ≤ c.2.1 ∧ c.2.2 ≤ x.sl ∧ c.2.2 < c.2.1) ∧ s.2.1 ≤ x.n ∧ s.2.2.1 ≤ x.n ∧ W'.heap[b1]? = some (.cells (hdS x a n c).toArray 52 (0, 0)) ∧ Fr (fun q => W.heap.size ≤ q) W W' ∧ W1.heap.size ≤ W'.heap.size)
      (fun s _ => (300 - s.2.2.2.2).toNat) (false, x.n - x.k * x.sl, x.n, x.n, 0) rfl ⟨0, rfl, Nat.zero_le _, by simp [sumC], by simp only; omega, by simp [sumC], by simp only; omega, by simp only; omega, by simp only; omega, fun h => by simp only; rw [h]; omega, fun c hc => by simp at hc, by simp only; omega, by simp only; omega, h3, frOf hB3, by have := hb2.size; have := hb3.size; omega⟩ ?_
  rintro ⟨b, ov, lo, al, ii⟩ W4 k ⟨i, hi, hil, hov, ov0, hlo, lo0, al0, al1, hal, hec, ov1, lo1, h4, hf4, hz4⟩ hk
  simp only at hi hov ov0 hlo lo0 al0 al1 hal ov1 lo1
  subst hi
  refine AsB.mk (AsI.mk (AsI.mk (AsI.mk (AsI.mk ?_))))
  refine If.dec (fun hlt => ?_) fun hge => ?_
  · have hlt' : (i : Int) < (n : Int) := hlt
    have hil' : i < x.l.length := by omega
    have hx : x.l[i]? = some (x.l[i]'hil') := List.getElem?_eq_getElem hil'
    generalize (x.l[i]'hil') = d at hx
    have hd := List.mem_of_getElem? hx
    obtain ⟨⟨c0, c1⟩, e0, e1⟩ := hw.l d hd
    refine (hr.bel hf4.bel).get encN_len hn rfl hx ?_
    refine NewA.mk fun b7 W5 h7 hb7 hsz5 hbl5 => ?_
    refine StV.to h7 (v := .agg (encN d).toArray) rfl (by decide) rfl (cs := (encN d).toArray) rfl fun W6 h76 hsz6 hf6 => ?_
    have f46 : Fr (fun q => q = b7) W4 W6 := (frOf hbl5).trans hf6
    have hz := hf4.size
    have f06 : Fr (fun q => W.heap.size ≤ q) W W6 := hf4.trans' f46 fun q hq _ => by omega
    have h16 := f46.at (by omega) h4
    have bad : ¬ Wi x → (∃ r, Value.bool false = .bool r ∧ (r = true ↔ Wi x)) ∧ Below W.heap.size W W6 := fun h => ⟨⟨false, rfl, ⟨fun h => (by cases h), fun hh => absurd hh h⟩⟩, f06.bel⟩
    refine Ld1.ad h76 (u := .int .u64 d.2.1) rfl ⟨_, rfl, ?_⟩
    refine Ld1.ad h16 (u := .int .u64 x.sl) rfl ⟨_, rfl, ?_⟩
    refine Join.use fun J hJ => ?_
    have hJt : ¬ Wi x → J true W6 := fun h => by
      rw [hJ]
      refine Join.use fun J1 hJ1 => If.pos rfl ?_
      rw [hJ1]
      exact If.pos rfl (bad h)
    refine If.dec (fun hc => hJt fun h => by have := (h.each d hd).1; omega) fun hc => ?_
    refine Ld1.ad h76 (u := .int .u64 d.2.2) rfl ⟨_, rfl, ?_⟩
    refine Ld1.ad h16 (u := .int .u64 x.sl) rfl ⟨_, rfl, ?_⟩
    dsimp only
    by_cases he : d.2.2 > x.sl
    · rw [decide_eq_true he]; exact hJt fun h => by have := (h.each d hd).2.1; omega
    rw [decide_eq_false he, hJ]
    refine Join.use fun J1 hJ1 => If.neg rfl ?_
    refine Ld1.ad h76 (u := .int .u64 d.2.2) rfl ⟨_, rfl, ?_⟩
    refine Ld1.ad h76 (u := .int .u64 d.2.1) rfl ⟨_, rfl, ?_⟩
    rw [hJ1]
    refine If.dec (fun hc2 => bad fun h => by have := (h.each d hd).2.2; omega) fun hc2 => ?_
    refine Ld1.ad h76 (u := .int .u64 d.2.1) rfl ⟨_, rfl, ?_⟩
    refine Ld1.ad h16 (u := .int .u64 x.sl) rfl ⟨_, rfl, ?_⟩
    dsimp only
    rw [wrap_u64 (x := d.2.1 - x.sl) (by omega) (by omega)]
    refine Join.use fun J2 hJ2 => ?_
    have so := sumC_take (f := fun c => c.2.1 - x.sl) hx
    have sw := sumC_take (f := fun c => c.2.1 - c.2.2) hx
    refine If.dec (fun hc3 => ?_) fun hc3 => ?_
    · rw [hJ2]
      refine If.pos rfl (bad fun h => ?_)
      have h1 := sumC_part (f := fun c => c.2.1 - x.sl) (l := x.l) (fun c hc => by have := (h.each c hc).1; omega) (i + 1)
      have h2 := h.over
      omega
    refine Ld1.ad h76 (u := .int .u64 d.2.1) rfl ⟨_, rfl, ?_⟩
    refine Ld1.ad h76 (u := .int .u64 d.2.2) rfl ⟨_, rfl, ?_⟩
    dsimp only
    rw [wrap_u64 (x := d.2.1 - d.2.2) (by omega) (by omega), hJ2]
    refine If.dec (fun hc4 => ?_) fun hc4 => ?_
    · refine bad fun h => ?_
      have h1 := sumC_part (f := fun c => c.2.1 - c.2.2) (l := x.l) (fun c hc => by have := (h.each c hc).2.2; omega) (i + 1)
      have h2 := h.low
      omega
    refine Ld1.ad h76 (u := .int .u64 d.2.1) rfl ⟨_, rfl, ?_⟩
    refine Ld1.ad h16 (u := .int .u64 x.sl) rfl ⟨_, rfl, ?_⟩
    refine Ld1.ad h76 (u := .int .u64 d.2.1) rfl ⟨_, rfl, ?_⟩
    refine Ld1.ad h76 (u := .int .u64 d.2.2) rfl ⟨_, rfl, ?_⟩
    refine Ld1.ad h76 (u := .int .u64 d.2.1) rfl ⟨_, rfl, ?_⟩
    have hmin : ∃ mm, (if d.2.1 < al then d.2.1 else al) = mm ∧ 0 ≤ mm ∧ mm ≤ al ∧ (d.2.1 ≤ al → mm = d.2.1) := by
      refine ⟨_, rfl, ?_⟩
      split <;> omega
    obtain ⟨mm, hmm, mm0, mm1, mm2⟩ := hmin
    show k [.bool b, .int .u64 (IntKind.u64.wrap (ov - IntKind.u64.wrap (d.2.1 - x.sl))), .int .u64 (IntKind.u64.wrap (lo - IntKind.u64.wrap (d.2.1 - d.2.2))), .int .u64 (IntKind.u64.wrap (al - (if d.2.1 < al then d.2.1 else al))), .int .i64 (IntKind.i64.wrap ((i : Int) + 1))] W6
    rw [hmm, wrap_u64 (x := d.2.1 - x.sl) (by omega) (by omega), wrap_u64 (x := d.2.1 - d.2.2) (by omega) (by omega), wrap_u64 (x := ov - (d.2.1 - x.sl)) (by omega) (by omega), wrap_u64 (x := lo - (d.2.1 - d.2.2)) (by omega) (by omega), wrap_u64 (x := al - mm) (by omega) (by omega), nsucc (by omega)]
    refine hk (b, ov - (d.2.1 - x.sl), lo - (d.2.1 - d.2.2), al - mm, ((i + 1 : Nat) : Int)) W6 ⟨i + 1, rfl, by omega, by simp only; omega, by simp only; omega, by simp only; omega, by simp only; omega, by simp only; omega, by simp only; omega, fun h => ?_, fun c hc => ?_, by simp only; omega, by simp only; omega, h16, f06, by have := f46.size; omega⟩ (by simp only; omega)
    · have := hal h; simp only; rw [h] at hc3 ⊢; have := mm2 (by omega); omega
    · rw [← (take_step hx).2] at hc
      rcases List.mem_append.1 hc with hc | hc
      · exact hec c hc
      · rw [List.mem_singleton] at hc; subst hc; omega
  · have hge' : ¬ (i : Int) < (n : Int) := hge
    have hi : x.l.take i = x.l := List.take_of_length_le (by omega)
    rw [hi] at hov hlo hec
    refine Ld1.ad h4 (u := .int .u64 x.sl) rfl ⟨_, rfl, ?_⟩
    refine Join.use fun J3 hJ3 => If.dec (fun hp => ?_) fun hp => ?_
    · rw [hJ3]
      exact ⟨⟨true, rfl, ⟨fun _ => ⟨hs, hec, by omega, by omega, fun h => by omega⟩, fun _ => rfl⟩⟩, hf4.bel⟩
    · have hsl : x.sl = 0 := by omega
      rw [hJ3]
      refine ⟨⟨al == 0, rfl, ?_⟩, hf4.bel⟩
      have e1 := hal hsl
      have e2 := sumC_sub x.sl x.l
      rw [beq_iff_eq]
      have e3 : x.k * x.sl = 0 := by rw [hsl, Int.mul_zero]
      have e4 : x.sl * (x.l.length : Int) = 0 := by rw [hsl, Int.zero_mul]
      constructor
      · intro h; exact ⟨hs, hec, by omega, by omega, fun _ => by omega⟩
      · intro h; have := h.all hsl; omega)
theorem may_iff {x : Sv} (hw : Wf x) : May x ↔ (1 ≤ x.k ∧ x.k ≤ 200 ∧ x.n ≤ 4611686018427387904 ∧ (x.l.length : Int) ≤ x.k ∧ Asc x.l ∧ Wi x) := by
  constructor
  · intro h
    exact ⟨h.k1, h.k2, h.n1, h.len, h.asc, ⟨h.sle, fun c hc => by have := h.each c hc; omega, h.over, h.low, h.all⟩⟩
  · rintro ⟨h1, h2, h3, h4, h5, h6⟩
    exact ⟨h1, h2, hw.n.1, h3, hw.sl.1, h4, h5, fun c hc => by have := h6.each c hc; have := (hw.l c hc).2; omega, h6.over, h6.low, h6.all⟩
theorem right_gives {W : World} {x : Sv} {a : Option Addr} {n c : Nat} (hw : Wf x) (hr : RdL W 14 encN a x.l) (hn : n = x.l.length) :
    Gives Try.prog 42 #[.agg (hdS x a n c).toArray] W fun v W' => (∃ r, v = .bool r ∧ (r = true ↔ May x)) ∧ Below W.heap.size W W' := F42_fn (by
  unfold F42
  refine NewA.mk fun b1 W1 h1 hb1 hsz1 hbl1 => ?_
  have hm := may_iff hw
  have bad : ¬ May x → (∃ r, Value.bool false = .bool r ∧ (r = true ↔ May x)) ∧ Below W.heap.size W W1 := fun h => ⟨⟨false, rfl, ⟨fun h => (by cases h), fun hh => absurd hh h⟩⟩, hbl1⟩
  refine Ld1.mk h1 (u := .int .i64 x.k) rfl ⟨_, rfl, ?_⟩
  refine Join.use fun J hJ => ?_
  have hJt : ¬ May x → J true W1 := fun h => by
    rw [hJ]
    refine Join.use fun J1 hJ1 => If.pos rfl ?_
    rw [hJ1]
    refine Join.use fun J2 hJ2 => If.pos rfl ?_
    rw [hJ2]
    exact If.pos rfl (bad h)
  refine If.dec (fun h => hJt fun hh => by have := hh.k1; omega) fun hk1 => ?_
  refine Ld1.mk h1 (u := .int .i64 x.k) rfl ⟨_, rfl, ?_⟩
  dsimp only
  by_cases hk2 : x.k > 200
  · have hd : decide (x.k > 200) = true := decide_eq_true hk2
    rw [hd]; exact hJt fun hh => by have := hh.k2; omega
  have hd : decide (x.k > 200) = false := decide_eq_false hk2
  rw [hd, hJ]
  refine Join.use fun J1 hJ1 => If.neg rfl ?_
  refine Ld1.ad h1 (u := .int .u64 x.n) rfl ⟨_, rfl, ?_⟩
  have hJ1t : ¬ May x → J1 true W1 := fun h => by
    rw [hJ1]
    refine Join.use fun J2 hJ2 => If.pos rfl ?_
    rw [hJ2]
    exact If.pos rfl (bad h)
  dsimp only
  by_cases hn1 : x.n > 4611686018427387904
  · have hd : decide (x.n > 4611686018427387904) = true := decide_eq_true hn1
    rw [hd]; exact hJ1t fun hh => by have := hh.n1; omega
  have hd : decide (x.n > 4611686018427387904) = false := decide_eq_false hn1
  rw [hd, hJ1]
  refine Join.use fun J2 hJ2 => If.neg rfl ?_
  refine Ld1.ad h1 (u := .slice a n c) rfl ⟨_, _, _, rfl, ?_⟩
  refine Ld1.mk h1 (u := .int .i64 x.k) rfl ⟨_, rfl, ?_⟩
  rw [hJ2]
  refine If.dec (fun h => bad fun hh => by have := hh.len; omega) fun hlen => ?_
  refine Ld1.ad h1 (u := .slice a n c) rfl ⟨_, _, _, rfl, ?_⟩
  have hl200 : x.l.length ≤ 200 := by omega
  refine CallK.mk (inOrder_gives (hr.bel hbl1) hn hl200) ?_
  rintro _ W2 ⟨⟨r, rfl, hrI⟩, hb2⟩
  have hB2 : Below W.heap.size W W2 := hbl1.trans (hb2.mono hbl1.size)
  refine ⟨_, rfl, Join.use fun J3 hJ3 => If.split (fun h => ?_) fun h => ?_⟩
  · refine LdNC.mk (belowAt hb2 h1) (cs := hdS x a n c) rfl rfl ?_
    refine CallK.mk (within_gives hw (by omega) (by omega) (hr.bel hB2) hn hl200) ?_
    rintro _ W3 ⟨⟨r', rfl, hrW⟩, hb3⟩
    refine ⟨_, rfl, ?_⟩
    rw [hJ3]
    refine ⟨⟨r', rfl, ?_⟩, hB2.trans (hb3.mono hB2.size)⟩
    rw [hrW, hm]
    exact ⟨fun hh => ⟨by omega, by omega, by omega, by omega, hrI.1 h, hh⟩, fun hh => hh.2.2.2.2.2⟩
  · rw [hJ3]
    refine ⟨⟨false, rfl, ?_⟩, hB2⟩
    rw [hm]
    refine ⟨fun h => (by cases h), fun hh => ?_⟩
    have := hrI.2 hh.2.2.2.2.1
    rw [h] at this; cases this)
end Go.Proofs.Ytcagnabglppenaa.Sv
namespace Go.Proofs.Ytcagnabglppenaa.Sv
open Go Go.RowKit Go.Vc Go.Proofs.Ytcagnabglppenaa.Fs Go.Proofs.Ytcagnabglppenaa.Px Go.Proofs.Ytcagnabglppenaa.Hq

theorem of_gives {W : World} {x : Sv} {a : Option Addr} {n c : Nat} (hw : Wf x) (hr : RdL W 14 encN a x.l) (hn : n = x.l.length) :
    Gives Try.prog 43 #[.agg (hdS x a n c).toArray] W fun v W' => ((¬ May x ∧ v = .tuple #[.pointer none, .int .i64 3]) ∨ (May x ∧ ∃ b, v = .tuple #[ptr b, .int .i64 0] ∧ SumR W' b (Hq.grow (fun _ => False) W W') x)) ∧ Below W.heap.size W W' := F43_fn (by
  unfold F43
  refine NewA.mk fun b1 W1 h1 hb1 hsz1 hbl1 => ?_
  refine LdNC.mk h1 (cs := hdS x a n c) rfl rfl ?_
  refine CallK.mk (right_gives hw (hr.bel hbl1) hn) ?_
  rintro _ W2 ⟨⟨r, rfl, hrM⟩, hb2⟩
  have hB2 : Below W.heap.size W W2 := hbl1.trans (hb2.mono hbl1.size)
  have h12 := belowAt hb2 h1
  refine ⟨_, rfl, If.split (fun h => ?_) fun h => ?_⟩
  · refine ⟨.inl ⟨fun hm => ?_, rfl⟩, hB2⟩
    have := hrM.2 hm
    rw [this] at h; cases h
  have hM : May x := hrM.1 (by simpa using h)
  have hk1 := hM.k1; have hk2 := hM.k2
  refine Ld1.mk h12 (u := .int .i64 x.k) rfl ⟨_, rfl, ?_⟩
  refine CallK.mk (new_gives hk1 hk2) ?_
  rintro _ W3 ⟨b, rfl, ⟨⟨Bh, m, Sh, hl, ef, hs, hsub, hSb, hSm, hp, _⟩, hlt⟩, hb3⟩
  have hB3 : Below W.heap.size W W3 := hB2.trans (hb3.mono hB2.size)
  have h13 := belowAt hb3 h12
  have z1 := heap_lt h1; have z2 := hb2.size; have z3 := hb3.size
  have ge : ∀ q, Hq.grow (fun _ => False) W2 W3 q → W2.heap.size ≤ q := fun q hq => hq.elim (fun h => h.elim) fun h => h.1
  have hbg := ge b hSb; have hmg := ge m hSm
  refine ⟨_, rfl, ?_⟩
  refine Ld1.ad h13 (u := .int .u64 x.n) rfl ⟨_, rfl, ?_⟩
  refine Ld1.ad h13 (u := .int .u64 x.sl) rfl ⟨_, rfl, ?_⟩
  intro W4 hb4
  have hs4 := hs.below hb4
  have h14 := belowAt hb4 h13
  refine StV.ad1 hs4.hb (v := .int .u64 x.n) rfl (show 0 + 1 < 5 by decide) rfl fun W5 h5 hsz5 hf5 => ?_
  have hs5 := hs4.store (k' := x.k) (n' := x.n) (sl' := 0) h5 hf5
  have h15 := hf5.at (by omega) h14
  refine StL.ad h15 (u := .int .u64 x.sl) rfl ?_
  refine StV.ad1 hs5.hb (v := .int .u64 x.sl) rfl (show 0 + 2 < 5 by decide) rfl fun W6 h6 hsz6 hf6 => ?_
  have hs6 := hs5.store (k' := x.k) (n' := x.n) (sl' := x.sl) h6 hf6
  have h16 := hf6.at (by omega) h15
  have f06 : Fr (fun q => W.heap.size ≤ q) W W6 := ((frOf (S := fun q => W.heap.size ≤ q) (hB3.trans (hb4.mono hB3.size))).trans' hf5 fun q hq _ => by omega).trans' hf6 fun q hq _ => by omega
  refine Ld1.ad h16 (u := .slice a n c) rfl ⟨_, _, _, rfl, ?_⟩
  have hln : x.l.length ≤ 200 := by have := hM.len; omega
  refine Lp.i1 (fun s W' => ∃ i : Nat, s = (i : Int) ∧ i ≤ x.l.length ∧ (∃ Sh hl ef, SumP W' b Bh m Sh hl ef x.k x.n x.sl ∧ (∀ q, Sh q → W2.heap.size ≤ q) ∧ hl.Perm ((x.l.take i).map it) ∧ ∀ d ∈ x.l.take i, ef d.1 = some d.2.2) ∧ W'.heap[b1]? = some (.cells (hdS x a n c).toArray 52 (0, 0)) ∧ Fr (fun q => W.heap.size ≤ q) W W' ∧ W2.heap.size ≤ W'.heap.size)
    (fun s _ => (300 - s).toNat) ⟨0, rfl, Nat.zero_le _, ⟨Sh, hl, ef, hs6, fun q hq => ge q (hsub q hq), hp, fun d hd => by simp at hd⟩, h16, f06, by have := hb4.size; omega⟩ ?_
  rintro s W7 k ⟨i, rfl, hil, ⟨Sh7, hl7, ef7, p1, p2, p3, p4⟩, h17, f07, z7⟩ hk
  refine ⟨_, rfl, If.dec (fun hlt' => ?_) fun hge => ?_⟩
  · have hil' : i < x.l.length := by omega
    have hx : x.l[i]? = some (x.l[i]'hil') := List.getElem?_eq_getElem hil'
    generalize (x.l[i]'hil') = d at hx
    have hd := List.mem_of_getElem? hx
    obtain ⟨⟨c0, c1⟩, e0, e1⟩ := hw.l d hd
    refine (hr.bel f07.bel).get encN_len hn rfl hx ?_
    refine NewA.mk fun b6 W8 h8 hb6 hsz8 hbl8 => ?_
    refine StV.to h8 (v := .agg (encN d).toArray) rfl (by decide) rfl (cs := (encN d).toArray) rfl fun W9 h69 hsz9 hf9 => ?_
    have f79 : Fr (fun q => q = b6) W7 W9 := (frOf hbl8).trans hf9
    have zb := heap_lt p1.hb; have zm := p1.hm.lt
    have p19 : SumP W9 b Bh m Sh7 hl7 ef7 x.k x.n x.sl := p1.fr f79 (by omega) (by omega) fun q hq e => by have := p1.hh.2 q hq; omega
    have h19 := f79.at (by have := heap_lt h17; omega) h17
    refine Ld1.ad p19.hb (u := ptr Bh) rfl ⟨_, rfl, ?_⟩
    refine LdNC.mk h69 (cs := encP d.1) rfl rfl ?_
    intro W10 hb10
    have p10 := p19.below hb10
    have h610 := belowAt hb10 h69
    have h110 := belowAt hb10 h19
    refine Ld1.ad h610 (u := .int .u64 d.2.1) rfl ⟨_, rfl, ?_⟩
    have hll : hl7.length ≤ 200 := by rw [p3.length_eq, List.length_map, List.length_take]; omega
    refine CallK.mk (add_gives p10.hh d.1 d.2.1 ⟨c0, c1⟩ (by omega)) ?_
    rintro v W11 (⟨hkey, _⟩ | ⟨_, rfl, ⟨l', hh11, hp11⟩, hf11⟩)
    · exfalso
      obtain ⟨y, hy, e⟩ := (key_it p3 d.1).1 hkey
      obtain ⟨j, hj⟩ := List.getElem?_of_mem hy
      rw [List.getElem?_take] at hj
      split at hj
      · obtain ⟨hjl, ej⟩ := List.getElem?_eq_some_iff.1 hj
        obtain ⟨hil2, ei⟩ := List.getElem?_eq_some_iff.1 hx
        have := List.pairwise_iff_getElem.1 hM.asc j i hjl hil2 (by omega)
        rw [ej, ei, e, ord3P.refl] at this
        omega
      · cases hj
    have z79 := f79.size; have z10 := hb10.size; have z11 := hf11.size; have zf := f07.size
    have p11 := p10.heap hh11 hf11
    have hSh : ∀ q, Sh7 q → W2.heap.size ≤ q ∧ q < W7.heap.size := fun q hq => ⟨p2 q hq, p1.hh.2 q hq⟩
    have h611 := hf11.at (fun h => by have := (hSh _ h).2; omega) h610
    have h111 := hf11.at (fun h => by have := (hSh _ h).1; omega) h110
    refine ⟨_, rfl, ?_⟩
    refine Ld1.ad p11.hb (u := .map (some m)) rfl ?_
    refine LdNC.mk h611 (cs := encP d.1) rfl rfl ?_
    intro W12 hb12
    have p12 := p11.below hb12
    refine Ld1.ad (belowAt hb12 h611) (u := .int .u64 d.2.2) rfl ⟨_, rfl, ?_⟩
    obtain ⟨o, ho1, ho2⟩ := p12.hm.update (P := Try.prog) keyOK_P t119 d.1 d.2.2
    refine ⟨_, ho1, ?_⟩
    have p13 := p12.map ho2
    show k [.int .i64 (IntKind.i64.wrap ((i : Int) + 1))] _
    rw [nsucc (by omega)]
    have f79' : Fr (fun q => W.heap.size ≤ q) W W9 := f07.trans' f79 fun q hq _ => by omega
    have f11' : Fr (fun q => W.heap.size ≤ q) W W11 := (f79'.trans (frOf hb10)).trans' hf11 fun q hq _ => by have := (hSh q hq).1; omega
    have f13' : Fr (fun q => W.heap.size ≤ q) W (World.setBlk W12 m o) := (f11'.trans (frOf hb12)).trans (Fr.setBlk (by omega) _ _)
    refine hk _ _ ⟨i + 1, rfl, by omega, ⟨_, l', _, p13, fun q hq => ?_, ?_, fun y hy => ?_⟩, (setBlk_other (by omega)).trans (belowAt hb12 h111), f13', by rw [setBlk_size]; have := hb12.size; omega⟩ (by omega)
    · rcases hq with h | h
      · exact p2 q h
      · omega
    · rw [← (take_step hx).2, List.map_append]
      exact hp11.trans (p3.append (List.Perm.refl _))
    · rw [← (take_step hx).2] at hy
      by_cases hyd : y.1 = d.1
      · have : y = d := hM.asc.uniq (by
          rcases List.mem_append.1 hy with hy | hy
          · exact List.mem_of_mem_take hy
          · rw [List.mem_singleton] at hy; rw [hy]; exact hd) hd hyd
        subst this
        exact upd_same _ _ _
      · rw [upd_other _ _ hyd]
        rcases List.mem_append.1 hy with hy | hy
        · exact p4 y hy
        · rw [List.mem_singleton] at hy; rw [hy] at hyd; exact absurd rfl hyd
  · have hi : x.l.take i = x.l := List.take_of_length_le (by omega)
    rw [hi] at p3 p4
    refine ⟨.inr ⟨hM, b, rfl, ⟨Bh, m, Sh7, hl7, ef7, p1, fun q hq => .inr ⟨by have := p2 q hq; omega, p1.hh.2 q hq⟩, .inr ⟨by omega, heap_lt p1.hb⟩, .inr ⟨by omega, p1.hm.lt⟩, p3, p4⟩, fun q hq => hq.elim (fun h => h.elim) fun h => h.2⟩, f07.bel⟩)
end Go.Proofs.Ytcagnabglppenaa.Sv
