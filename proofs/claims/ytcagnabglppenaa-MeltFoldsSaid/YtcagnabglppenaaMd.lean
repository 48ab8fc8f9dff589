/- melt: what two summaries are together may be, and says of each prefix what both say. -/
import Derived.Test.YtcagnabglppenaaMc
import Derived.Test.YtcagnabglppenaaWh
namespace Go.Proofs.Ytcagnabglppenaa.Me
open Go Go.RowKit Go.Vc Go.Proofs.Ytcagnabglppenaa.Fs Go.Proofs.Ytcagnabglppenaa.Px Go.Proofs.Ytcagnabglppenaa.Hq Go.Proofs.Ytcagnabglppenaa.Sv

/-! ### The zipped list -/
theorem lt_irr (p : Pfx) : ¬ cmpP p p < 0 := by rw [cmpP_iff.2 rfl]; decide
theorem cmp_cases (p q : Pfx) : cmpP p q = -1 ∨ p = q ∨ cmpP p q = 1 := by
  rcases ord3P.sgn p q with h | h | h
  · exact .inl h
  · exact .inr (.inl (cmpP_zero h))
  · exact .inr (.inr h)
theorem cmp_flip {p q : Pfx} (h : cmpP p q = 1) : cmpP q p < 0 := by rw [ord3P.sym, h]; decide
theorem cmp_self (p : Pfx) : cmpP p p = 0 := cmpP_iff.2 rfl
/-- What the zipped list begins with, and what is left. -/
inductive Zip (sa sb : Int) : List Cnt → List Cnt → List Cnt → Prop
  | nil : Zip sa sb [] [] []
  | left {a : Cnt} {l m z : List Cnt} (h : ∀ b ∈ m, cmpP a.1 b.1 < 0) (t : Zip sa sb l m z) : Zip sa sb (a :: l) m ((a.1, a.2.1 + sb, a.2.2 + sb) :: z)
  | right {b : Cnt} {l m z : List Cnt} (h : ∀ a ∈ l, cmpP b.1 a.1 < 0) (t : Zip sa sb l m z) : Zip sa sb l (b :: m) ((b.1, b.2.1 + sa, b.2.2 + sa) :: z)
  | both {a b : Cnt} {l m z : List Cnt} (e : a.1 = b.1) (t : Zip sa sb l m z) : Zip sa sb (a :: l) (b :: m) ((a.1, a.2.1 + b.2.1, a.2.2 + b.2.2) :: z)
theorem zip_zip (sa sb : Int) : ∀ l m : List Cnt, Asc l → Asc m → Zip sa sb l m (zipL sa sb l m)
  | [], [], _, _ => by rw [zipL]; exact .nil
  | a :: l, [], hl, hm => by rw [zipL]; exact .left (fun b hb => by cases hb) (zip_zip sa sb l [] (List.pairwise_cons.1 hl).2 hm)
  | [], b :: m, hl, hm => by rw [zipL]; exact .right (fun b hb => by cases hb) (zip_zip sa sb [] m hl (List.pairwise_cons.1 hm).2)
  | a :: l, b :: m, hl, hm => by
    have hl' := List.pairwise_cons.1 hl
    have hm' := List.pairwise_cons.1 hm
    rw [zipL]
    rcases cmp_cases a.1 b.1 with h | h | h
    · rw [if_pos h]
      refine .left (fun c hc => ?_) (zip_zip sa sb l (b :: m) hl'.2 hm)
      rcases List.mem_cons.1 hc with rfl | hc
      · rw [h]; decide
      · exact lt_tr (by rw [h]; decide) (hm'.1 c hc)
    · rw [h, cmp_self, if_neg (by decide), if_neg (by decide)]
      exact .both h (zip_zip sa sb l m hl'.2 hm'.2)
    · rw [h, if_neg (by decide), if_pos rfl]
      refine .right (fun c hc => ?_) (zip_zip sa sb (a :: l) m hl hm'.2)
      rcases List.mem_cons.1 hc with rfl | hc
      · exact cmp_flip h
      · exact lt_tr (cmp_flip h) (hl'.1 c hc)
termination_by l m => l.length + m.length
theorem Zip.from {sa sb : Int} {l m z : List Cnt} (h : Zip sa sb l m z) : ∀ c ∈ z, (∃ a ∈ l, a.1 = c.1) ∨ (∃ b ∈ m, b.1 = c.1) := by
  induction h with
  | nil => intro c hc; cases hc
  | left h t ih =>
    intro c hc
    rcases List.mem_cons.1 hc with rfl | hc
    · exact .inl ⟨_, List.mem_cons_self, rfl⟩
    · exact (ih c hc).imp (fun ⟨a, h1, h2⟩ => ⟨a, List.mem_cons_of_mem _ h1, h2⟩) id
  | right h t ih =>
    intro c hc
    rcases List.mem_cons.1 hc with rfl | hc
    · exact .inr ⟨_, List.mem_cons_self, rfl⟩
    · exact (ih c hc).imp id (fun ⟨a, h1, h2⟩ => ⟨a, List.mem_cons_of_mem _ h1, h2⟩)
  | both e t ih =>
    intro c hc
    rcases List.mem_cons.1 hc with rfl | hc
    · exact .inl ⟨_, List.mem_cons_self, rfl⟩
    · exact (ih c hc).imp (fun ⟨a, h1, h2⟩ => ⟨a, List.mem_cons_of_mem _ h1, h2⟩) (fun ⟨a, h1, h2⟩ => ⟨a, List.mem_cons_of_mem _ h1, h2⟩)
theorem Zip.asc {sa sb : Int} {l m z : List Cnt} (h : Zip sa sb l m z) (hl : Asc l) (hm : Asc m) : Asc z := by
  induction h with
  | nil => exact .nil
  | left h t ih =>
    have hl' := List.pairwise_cons.1 hl
    refine List.pairwise_cons.2 ⟨fun c hc => ?_, ih hl'.2 hm⟩
    rcases t.from c hc with ⟨x, hx, e⟩ | ⟨x, hx, e⟩
    · rw [← e]; exact hl'.1 x hx
    · rw [← e]; exact h x hx
  | right h t ih =>
    have hm' := List.pairwise_cons.1 hm
    refine List.pairwise_cons.2 ⟨fun c hc => ?_, ih hl hm'.2⟩
    rcases t.from c hc with ⟨x, hx, e⟩ | ⟨x, hx, e⟩
    · rw [← e]; exact h x hx
    · rw [← e]; exact hm'.1 x hx
  | both e0 t ih =>
    have hl' := List.pairwise_cons.1 hl
    have hm' := List.pairwise_cons.1 hm
    refine List.pairwise_cons.2 ⟨fun c hc => ?_, ih hl'.2 hm'.2⟩
    rcases t.from c hc with ⟨x, hx, e⟩ | ⟨x, hx, e⟩
    · rw [← e]; exact hl'.1 x hx
    · rw [← e]; dsimp only; rw [e0]; exact hm'.1 x hx
/-- What a summary of slack s says of a prefix at most, at least. -/
def hiL (s : Int) (l : List Cnt) (p : Pfx) : Int := match getC l p with | some c => c.2.1 | none => s
def loL (l : List Cnt) (p : Pfx) : Int := match getC l p with | some c => c.2.1 - c.2.2 | none => 0
open Classical in
theorem getC_cons (a : Cnt) (l : List Cnt) (p : Pfx) : getC (a :: l) p = if a.1 = p then some a else getC l p := by
  unfold getC
  by_cases h : a.1 = p
  · rw [List.find?_cons_of_pos (by rw [isP_iff]; exact h), if_pos h]
  · rw [List.find?_cons_of_neg (by rw [isP_iff]; exact h), if_neg h]
theorem getC_has {l : List Cnt} {p : Pfx} : getC l p = none ↔ ¬ Has l p := by
  refine ⟨getC_none, fun h => ?_⟩
  cases hg : getC l p with
  | none => rfl
  | some c => exact absurd ⟨c, (getC_some hg).1, (getC_some hg).2⟩ h
theorem not_has_lt {l : List Cnt} {p : Pfx} (h : ∀ c ∈ l, cmpP p c.1 < 0) : getC l p = none := getC_has.2 fun ⟨c, hc, e⟩ => by
  have := h c hc
  rw [e] at this; exact lt_irr p this
theorem Zip.get {sa sb : Int} {l m z : List Cnt} (h : Zip sa sb l m z) (hl : Asc l) (hm : Asc m) (p : Pfx) :
    (getC z p = none ∧ getC l p = none ∧ getC m p = none) ∨ (∃ c, getC z p = some c ∧ c.2.1 = hiL sa l p + hiL sb m p ∧ c.2.1 - c.2.2 = loL l p + loL m p) := by
  induction h with
  | nil => exact .inl ⟨rfl, rfl, rfl⟩
  | @left a l m z h t ih =>
    have hl' := List.pairwise_cons.1 hl
    unfold hiL loL
    rw [getC_cons, getC_cons]
    by_cases e : a.1 = p
    · rw [if_pos e, if_pos e, not_has_lt (p := p) (by rw [← e]; exact h)]
      exact .inr ⟨_, rfl, rfl, by simp only; omega⟩
    · rw [if_neg e, if_neg e]; exact ih hl'.2 hm
  | @right b l m z h t ih =>
    have hm' := List.pairwise_cons.1 hm
    unfold hiL loL
    rw [getC_cons, getC_cons]
    by_cases e : b.1 = p
    · rw [if_pos e, if_pos e, not_has_lt (p := p) (by rw [← e]; exact h)]
      exact .inr ⟨_, rfl, by simp only; omega, by simp only; omega⟩
    · rw [if_neg e, if_neg e]; exact ih hl hm'.2
  | @both a b l m z e0 t ih =>
    have hl' := List.pairwise_cons.1 hl
    have hm' := List.pairwise_cons.1 hm
    unfold hiL loL
    rw [getC_cons, getC_cons, getC_cons]
    by_cases e : a.1 = p
    · rw [if_pos e, if_pos e, if_pos (by rw [← e0]; exact e)]
      exact .inr ⟨_, rfl, rfl, by simp only; omega⟩
    · rw [if_neg e, if_neg e, if_neg (by rw [← e0]; exact e)]; exact ih hl'.2 hm'.2
theorem Zip.sum {sa sb : Int} {l m z : List Cnt} (h : Zip sa sb l m z) :
    sumC (fun c => c.2.1 - (sa + sb)) z = sumC (fun c => c.2.1 - sa) l + sumC (fun c => c.2.1 - sb) m ∧ sumC (fun c => c.2.1 - c.2.2) z = sumC (fun c => c.2.1 - c.2.2) l + sumC (fun c => c.2.1 - c.2.2) m := by
  induction h with
  | nil => exact ⟨rfl, rfl⟩
  | left h t ih => simp only [sumC]; omega
  | right h t ih => simp only [sumC]; omega
  | both e t ih => simp only [sumC]; omega
theorem Zip.each {sa sb : Int} {l m z : List Cnt} (h : Zip sa sb l m z) (ha : 0 ≤ sa) (hb : 0 ≤ sb) (h1 : ∀ c ∈ l, sa ≤ c.2.1 ∧ 0 ≤ c.2.2 ∧ c.2.2 ≤ sa ∧ c.2.2 < c.2.1) (h2 : ∀ c ∈ m, sb ≤ c.2.1 ∧ 0 ≤ c.2.2 ∧ c.2.2 ≤ sb ∧ c.2.2 < c.2.1) :
    ∀ c ∈ z, sa + sb ≤ c.2.1 ∧ 0 ≤ c.2.2 ∧ c.2.2 ≤ sa + sb ∧ c.2.2 < c.2.1 := by
  induction h with
  | nil => intro c hc; cases hc
  | left h t ih =>
    intro c hc
    rcases List.mem_cons.1 hc with rfl | hc
    · have := h1 _ List.mem_cons_self; simp only; omega
    · exact ih (fun c hc => h1 c (List.mem_cons_of_mem _ hc)) h2 c hc
  | right h t ih =>
    intro c hc
    rcases List.mem_cons.1 hc with rfl | hc
    · have := h2 _ List.mem_cons_self; simp only; omega
    · exact ih h1 (fun c hc => h2 c (List.mem_cons_of_mem _ hc)) c hc
  | both e t ih =>
    intro c hc
    rcases List.mem_cons.1 hc with rfl | hc
    · have := h1 _ List.mem_cons_self; have := h2 _ List.mem_cons_self; simp only; omega
    · exact ih (fun c hc => h1 c (List.mem_cons_of_mem _ hc)) (fun c hc => h2 c (List.mem_cons_of_mem _ hc)) c hc

/-! ### The cut -/
theorem cut_sum {s S : Int} (hS : S ≤ s) : ∀ l : List Cnt, (∀ c ∈ l, S ≤ c.2.1) →
    sumC (fun c => c.2.1 - s) (l.filter fun c => !decide (c.2.1 ≤ s)) + ((l.filter fun c => decide (s ≤ c.2.1)).length : Int) * (s - S) ≤ sumC (fun c => c.2.1 - S) l
  | [], _ => by simp [sumC]
  | c :: l, h => by
    have ih := cut_sum hS l fun d hd => h d (List.mem_cons_of_mem _ hd)
    have hc := h c List.mem_cons_self
    by_cases h1 : c.2.1 ≤ s
    · rw [List.filter_cons_of_neg (by simpa using h1)]
      by_cases h2 : s ≤ c.2.1
      · rw [List.filter_cons_of_pos (by simpa using h2)]
        simp only [sumC, List.length_cons, Int.natCast_add, Int.add_mul]
        omega
      · rw [List.filter_cons_of_neg (by simpa using h2)]
        simp only [sumC]; omega
    · rw [List.filter_cons_of_pos (by simpa using h1), List.filter_cons_of_pos (by simp; omega)]
      simp only [sumC, List.length_cons, Int.natCast_add, Int.add_mul]
      omega
theorem filter_sum {f : Cnt → Int} {q : Cnt → Bool} : ∀ l : List Cnt, (∀ c ∈ l, 0 ≤ f c) → sumC f (l.filter q) ≤ sumC f l
  | [], _ => by simp [sumC]
  | c :: l, h => by
    have ih := filter_sum (f := f) (q := q) l fun d hd => h d (List.mem_cons_of_mem _ hd)
    have hc := h c List.mem_cons_self
    by_cases h1 : q c = true
    · rw [List.filter_cons_of_pos h1]; simp only [sumC]; omega
    · rw [List.filter_cons_of_neg h1]; simp only [sumC]; omega
theorem sorted_by (l : List Cnt) : ∃ d : List Cnt, d.Perm l ∧ d.Pairwise (fun x y => y.2.1 ≤ x.2.1) := by
  refine ⟨l.mergeSort (fun x y => decide (y.2.1 ≤ x.2.1)), List.mergeSort_perm _ _, ?_⟩
  have := List.pairwise_mergeSort (le := fun x y : Cnt => decide (y.2.1 ≤ x.2.1)) (fun a b c h1 h2 => by simp at *; omega) (fun a b => by simp; omega) l
  exact this.imp fun h => by simpa using h
theorem kth_ex {l : List Cnt} {k : Nat} (hk : k < l.length) : Kth l k (kthC l k) := by
  obtain ⟨d, hp, hd⟩ := sorted_by l
  have h := kth_sorted hp hd (k := k) (by rw [hp.length_eq]; exact hk)
  rw [h.eq]; exact h
/-- What is let go weighs at most the new slack; the rest stays. -/
structure Cut (x z : Sv) : Prop where
  k : z.k = x.k
  n : z.n = x.n
  s : x.sl ≤ z.sl
  l : z.l = x.l ∨ z.l = x.l.filter fun c => !decide (c.2.1 ≤ z.sl)
  same : z.l = x.l → z.sl = x.sl ∨ 0 < z.sl
theorem filter_not {l : List Cnt} {s : Int} : (l.filter fun c => !decide (c.2.1 ≤ s)) = l.filter fun c => decide (s < c.2.1) := by
  congr 1
  funext c
  by_cases h : c.2.1 ≤ s
  · simp [h, Int.not_lt.2 h]
  · simp [h, Int.not_le.1 h]
/-- A summary but for the number of its counts. -/
structure Near (x : Sv) : Prop where
  k1 : 1 ≤ x.k
  k2 : x.k ≤ 200
  n0 : 0 ≤ x.n
  n1 : x.n ≤ 4611686018427387904
  s0 : 0 ≤ x.sl
  asc : Asc x.l
  each : ∀ c ∈ x.l, x.sl ≤ c.2.1 ∧ 0 ≤ c.2.2 ∧ c.2.2 ≤ x.sl ∧ c.2.2 < c.2.1
  over : sumC (fun c => c.2.1 - x.sl) x.l + x.k * x.sl ≤ x.n
  low : sumC (fun c => c.2.1 - c.2.2) x.l ≤ x.n
  all : x.sl = 0 → sumC (fun c => c.2.1) x.l = x.n
theorem Near.cut {x : Sv} (h : Near x) : May (cutS x) ∧ (cutS x).k = x.k ∧ (cutS x).n = x.n ∧ x.sl ≤ (cutS x).sl ∧ (∀ c ∈ x.l, c ∈ (cutS x).l ∨ c.2.1 ≤ (cutS x).sl) ∧ (∀ c ∈ (cutS x).l, c ∈ x.l) ∧ ((x.k < x.l.length) → 0 < (cutS x).sl) ∧ ((x.l.length : Int) ≤ x.k → cutS x = x) := by
  have k1 := h.k1
  by_cases hle : (x.l.length : Int) ≤ x.k
  · have e : cutS x = x := by unfold cutS; rw [if_pos hle]
    rw [e]
    exact ⟨⟨h.k1, h.k2, h.n0, h.n1, h.s0, hle, h.asc, h.each, h.over, h.low, h.all⟩, rfl, rfl, Int.le_refl _, fun c hc => .inl hc, fun c hc => hc, fun hh => by omega, fun _ => rfl⟩
  · have hk : x.k.toNat < x.l.length := by omega
    have hK := kth_ex hk
    have e : cutS x = { x with sl := kthC x.l x.k.toNat, l := x.l.filter fun c => !decide (c.2.1 ≤ kthC x.l x.k.toNat) } := by unfold cutS; rw [if_neg hle]
    rw [e]
    generalize kthC x.l x.k.toNat = s at hK
    obtain ⟨⟨c0, hc0, e0⟩, hab, hle'⟩ := hK
    have he0 := h.each c0 hc0
    have hs0 := h.s0
    have hsub : ∀ c ∈ x.l.filter (fun c => !decide (c.2.1 ≤ s)), c ∈ x.l ∧ s < c.2.1 := fun c hc => by
      have := List.mem_filter.1 hc
      exact ⟨this.1, by have := this.2; simp at this; omega⟩
    refine ⟨⟨h.k1, h.k2, h.n0, h.n1, by simp only; omega, ?_, h.asc.sublist List.filter_sublist, fun c hc => ?_, ?_, ?_, fun hz => by simp only at hz; omega⟩, rfl, rfl, by simp only; omega, fun c hc => ?_, fun c hc => (hsub c hc).1, fun _ => by simp only; omega, fun hh => absurd hh hle⟩
    · dsimp only; rw [filter_not]; omega
    · dsimp only at hc ⊢
      have := hsub c hc
      have := h.each c this.1
      omega
    · dsimp only
      have h1 := cut_sum (s := s) (S := x.sl) (by omega) x.l fun c hc => (h.each c hc).1
      have h2 := h.over
      have h3 : x.k * (s - x.sl) ≤ ((x.l.filter fun c => decide (s ≤ c.2.1)).length : Int) * (s - x.sl) := Int.mul_le_mul_of_nonneg_right (by omega) (by omega)
      rw [Int.mul_sub] at h3
      omega
    · dsimp only
      exact Int.le_trans (filter_sum _ fun c hc => by have := h.each c hc; omega) h.low
    · by_cases hcs : c.2.1 ≤ s
      · exact .inr hcs
      · exact .inl (List.mem_filter.2 ⟨hc, by simpa using hcs⟩)

/-! ### Together -/
def zipS (x y : Sv) : Sv := ⟨x.k, x.n + y.n, x.sl + y.sl, zipL x.sl y.sl x.l y.l⟩
theorem near_zip {x y : Sv} (hX : May x) (hY : May y) (hk : x.k = y.k) (ho : ¬ x.n > 4611686018427387904 - y.n) : Near (zipS x y) := by
  have hz := zip_zip x.sl y.sl x.l y.l hX.asc hY.asc
  have n0 := hX.n0; have m0 := hY.n0; have s0 := hX.s0; have u0 := hY.s0
  have hs := hz.sum
  have o1 := hX.over; have o2 := hY.over; have l1 := hX.low; have l2 := hY.low
  refine ⟨hX.k1, hX.k2, by simp only [zipS]; omega, by simp only [zipS]; omega, by simp only [zipS]; omega, hz.asc hX.asc hY.asc, hz.each s0 u0 hX.each hY.each, ?_, ?_, fun h0 => ?_⟩
  · simp only [zipS]
    rw [hs.1, Int.mul_add, hk]
    rw [hk] at o1
    omega
  · simp only [zipS]; omega
  · simp only [zipS] at h0 ⊢
    have hx0 : x.sl = 0 := by omega
    have hy0 : y.sl = 0 := by omega
    have e1 := hX.all hx0
    have e2 := hY.all hy0
    have h1 := hs.1
    rw [hx0, hy0] at h1 ⊢
    simp only [Int.add_zero, Int.sub_zero] at h1
    rw [h1, e1, e2]
theorem mrg_ok {x y : Sv} (hX : May x) (hY : May y) (hk : x.k = y.k) (ho : ¬ x.n > 4611686018427387904 - y.n) : mrg x y = (cutS (zipS x y), 0) := by
  unfold mrg; rw [if_pos ⟨hX, hY⟩, if_pos hk, if_neg ho]; rfl
/-- What an answer of 0 says. -/
theorem mrg_zero {x y : Sv} (h : (mrg x y).2 = 0) : May x ∧ May y ∧ x.k = y.k ∧ ¬ x.n > 4611686018427387904 - y.n := by
  unfold mrg at h
  split at h
  · rename_i hm
    split at h
    · rename_i hk
      split at h
      · simp at h
      · rename_i ho; exact ⟨hm.1, hm.2, hk, ho⟩
    · simp at h
  · simp at h
theorem mrg_not {x y : Sv} (h : (mrg x y).2 ≠ 0) : (mrg x y).1 = ⟨0, 0, 0, []⟩ := by
  unfold mrg at h ⊢
  split
  · split
    · split
      · rfl
      · rename_i h1 h2 h3; rw [if_pos h1, if_pos h2, if_neg h3] at h; simp at h
    · rfl
  · rfl
theorem mrg_may {x y : Sv} (h : (mrg x y).2 = 0) : May (mrg x y).1 ∧ (mrg x y).1.k = x.k ∧ (mrg x y).1.n = x.n + y.n := by
  obtain ⟨hX, hY, hk, ho⟩ := mrg_zero h
  rw [mrg_ok hX hY hk ho]
  have := (near_zip hX hY hk ho).cut
  exact ⟨this.1, this.2.1, this.2.2.1⟩
theorem mrg_wf {x y : Sv} : Wf (mrg x y).1 := by
  by_cases h : (mrg x y).2 = 0
  · exact (mrg_may h).1.wf
  · rw [mrg_not h]; exact ⟨by decide, by decide, by decide, fun c hc => by cases hc⟩
theorem mrg_e (x y : Sv) : (mrg x y).2 = 0 ∨ (mrg x y).2 = 3 ∨ (mrg x y).2 = 13 ∨ (mrg x y).2 = 14 := by
  unfold mrg
  repeat' split
  all_goals simp
theorem hi_eq (x : Sv) (p : Pfx) : highS x p = hiL x.sl x.l p := rfl
theorem lo_eq (x : Sv) (p : Pfx) : lowS x p = loL x.l p := rfl
/-- What the merged summary says of a prefix. -/
theorem mrg_two {x y : Sv} (h : (mrg x y).2 = 0) (p : Pfx) :
    (lowS (mrg x y).1 p = 0 ∧ highS (mrg x y).1 p = (mrg x y).1.sl ∧ lowS x p + lowS y p ≤ (mrg x y).1.sl ∧ highS x p + highS y p ≤ (mrg x y).1.sl) ∨
    (0 < lowS (mrg x y).1 p ∧ lowS (mrg x y).1 p = lowS x p + lowS y p ∧ highS (mrg x y).1 p = highS x p + highS y p ∧ (mrg x y).1.sl ≤ highS x p + highS y p) := by
  obtain ⟨hX, hY, hk, ho⟩ := mrg_zero h
  rw [mrg_ok hX hY hk ho]
  dsimp only
  have hN := near_zip hX hY hk ho
  obtain ⟨hM, _, _, hs, hin, hout, _, _⟩ := hN.cut
  have hz := zip_zip x.sl y.sl x.l y.l hX.asc hY.asc
  generalize hcz : cutS (zipS x y) = z at *
  have hnone : getC z.l p = none → lowS z p = 0 ∧ highS z p = z.sl := fun hg => by unfold lowS highS; rw [hg]; exact ⟨rfl, rfl⟩
  rcases hz.get hX.asc hY.asc p with ⟨g1, g2, g3⟩ | ⟨c, g1, g2, g3⟩
  · have : getC z.l p = none := getC_has.2 fun ⟨d, hd, e⟩ => getC_has.1 g1 ⟨d, hout d hd, e⟩
    refine .inl ⟨(hnone this).1, (hnone this).2, ?_, ?_⟩
    · have := hM.s0
      rw [lo_eq, lo_eq]; unfold loL; rw [g2, g3]; simpa using this
    · rw [hi_eq, hi_eq]; unfold hiL; rw [g2, g3]; exact hs
  · rw [hi_eq x, hi_eq y, lo_eq x, lo_eq y, ← g2, ← g3]
    obtain ⟨hc1, hc2⟩ := getC_some g1
    have he := hN.each c hc1
    rcases hin c hc1 with hc | hc
    · cases hg : getC z.l p with
      | none => exact absurd ⟨c, hc, hc2⟩ (getC_has.1 hg)
      | some d =>
        obtain ⟨hd1, hd2⟩ := getC_some hg
        have : d = c := hM.asc.uniq hd1 hc (hd2.trans hc2.symm)
        subst this
        have hl : lowS z p = d.2.1 - d.2.2 := by unfold lowS; rw [hg]
        have hh : highS z p = d.2.1 := by unfold highS; rw [hg]
        rw [hl, hh]
        exact .inr ⟨by omega, rfl, rfl, (hM.each d hc).1⟩
    · cases hg : getC z.l p with
      | none => exact .inl ⟨(hnone hg).1, (hnone hg).2, by omega, hc⟩
      | some d =>
        obtain ⟨hd1, hd2⟩ := getC_some hg
        have : d = c := hN.asc.uniq (hout d hd1) hc1 (hd2.trans hc2.symm)
        subst this
        have hl : lowS z p = d.2.1 - d.2.2 := by unfold lowS; rw [hg]
        have hh : highS z p = d.2.1 := by unfold highS; rw [hg]
        rw [hl, hh]
        exact .inr ⟨by omega, rfl, rfl, (hM.each d hd1).1⟩
/-- The order of the two does not matter. -/
theorem zip_comm (sa sb : Int) : ∀ l m : List Cnt, zipL sa sb l m = zipL sb sa m l
  | [], [] => by rw [zipL, zipL]
  | a :: l, [] => by rw [zipL, zipL, zip_comm sa sb l []]; rfl
  | [], b :: m => by rw [zipL, zipL, zip_comm sa sb [] m]; rfl
  | a :: l, b :: m => by
    rw [zipL, zipL]
    have hsym := ord3P.sym a.1 b.1
    rcases cmp_cases a.1 b.1 with h | h | h
    · rw [if_pos h, if_neg (by rw [hsym, h]; decide), if_pos (by rw [hsym, h]; decide), zip_comm sa sb l (b :: m)]; rfl
    · have e1 : cmpP a.1 b.1 = 0 := cmpP_iff.2 h
      have e2 : cmpP b.1 a.1 = 0 := cmpP_iff.2 h.symm
      rw [e1, e2, if_neg (by decide), if_neg (by decide), if_neg (by decide), if_neg (by decide), zip_comm sa sb l m]
      unfold joinC
      simp only [h, Int.add_comm]
    · rw [if_neg (by rw [h]; decide), if_pos h, if_pos (by rw [hsym, h]), zip_comm sa sb (a :: l) m]; rfl
termination_by l m => l.length + m.length
theorem mrg_comm (x y : Sv) : mrg x y = mrg y x := by
  unfold mrg
  by_cases h1 : May x ∧ May y
  · rw [if_pos h1, if_pos h1.symm]
    by_cases h2 : x.k = y.k
    · rw [if_pos h2, if_pos h2.symm]
      by_cases h3 : x.n > 4611686018427387904 - y.n
      · rw [if_pos h3, if_pos (by omega)]
      · rw [if_neg h3, if_neg (by omega), h2, Int.add_comm x.n, Int.add_comm x.sl, zip_comm]
    · rw [if_neg h2, if_neg (Ne.symm h2)]
  · rw [if_neg h1, if_neg (fun h => h1 h.symm)]
theorem zip_nil (s : Int) : ∀ l : List Cnt, zipL s 0 l [] = l
  | [] => by rw [zipL]
  | a :: l => by rw [zipL, zip_nil s l]; simp [joinC]
theorem mrg_empty {x : Sv} (h : May x) : mrg x ⟨x.k, 0, 0, []⟩ = (x, 0) := by
  have n1 := h.n1
  rw [mrg_ok h (may_new h.k1 h.k2) rfl (by simp only; omega)]
  have : zipS x ⟨x.k, 0, 0, []⟩ = x := by unfold zipS; simp only [Int.add_zero, zip_nil]
  rw [this]
  unfold cutS; rw [if_pos h.len]
theorem mrg_bad {x y : Sv} (h : ¬ May x) : mrg x y = (⟨0, 0, 0, []⟩, 3) := by unfold mrg; rw [if_neg fun hh => h hh.1]
end Go.Proofs.Ytcagnabglppenaa.Me
