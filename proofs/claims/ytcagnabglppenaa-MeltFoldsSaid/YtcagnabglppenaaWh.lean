/- Summaries of bounded size: bounds; weights and places. -/
import Derived.Test.YtcagnabglppenaaSw
namespace Go.Proofs.Ytcagnabglppenaa.Sv
open Go Go.RowKit Go.Vc Go.Proofs.Ytcagnabglppenaa.Fs Go.Proofs.Ytcagnabglppenaa.Px Go.Proofs.Ytcagnabglppenaa.Hq

/-! ### Plain -/
def wt : List Hq.Item → Pfx → Int
  | [], _ => 0
  | i :: r, p => (if isP i.1 p = true then i.2 else 0) + wt r p
def tot : List Hq.Item → Int
  | [] => 0
  | i :: r => i.2 + tot r
theorem wt_snoc (l : List Hq.Item) (i : Hq.Item) (p : Pfx) : wt (l ++ [i]) p = wt l p + if isP i.1 p = true then i.2 else 0 := by
  induction l with
  | nil => simp [wt]
  | cons x r ih => simp only [List.cons_append, wt, ih]; omega
theorem tot_snoc (l : List Hq.Item) (i : Hq.Item) : tot (l ++ [i]) = tot l + i.2 := by
  induction l with
  | nil => simp [tot]
  | cons x r ih => simp only [List.cons_append, tot, ih]; omega
theorem wt_nonneg {l : List Hq.Item} (h : WfL l) (p : Pfx) : 0 ≤ wt l p ∧ wt l p ≤ tot l := by
  induction l with
  | nil => exact ⟨Int.le_refl 0, Int.le_refl 0⟩
  | cons x r ih =>
    have h1 := ih fun i hi => h i (by simp [hi])
    have h2 := (h x (by simp)).1
    simp only [wt, tot]
    split <;> omega
/-- What a summary says of what was taken. -/
structure Bnd (x : Sv) (t : List Hq.Item) : Prop where
  wf : WfL t
  n : x.n = tot t
  inn : ∀ c ∈ x.l, c.2.1 - c.2.2 ≤ wt t c.1 ∧ wt t c.1 ≤ c.2.1
  out : ∀ p, ¬ Has x.l p → wt t p ≤ x.sl
theorem bnd_new {k : Int} : Bnd ⟨k, 0, 0, []⟩ [] := ⟨fun i hi => (by cases hi), rfl, fun c hc => (by cases hc), fun p _ => Int.le_refl 0⟩
theorem Bnd.step {x : Sv} {t : List Hq.Item} (h : Bnd x t) (hM : May x) {i : Hq.Item} (hi : 0 ≤ i.2 ∧ i.2 < 18446744073709551616) : Bnd (stepR (x, t) i).1 (stepR (x, t) i).2 := by
  have hI := ins_is hM i.1 i.2
  unfold stepR
  simp only
  generalize ins x i.1 i.2 = y at hI
  obtain ⟨q, w⟩ := i
  simp only at hi hI
  have hwf : WfL (t ++ [(q, w)]) := fun j hj => by
    rcases List.mem_append.1 hj with hj | hj
    · exact h.wf j hj
    · rw [List.mem_singleton] at hj; subst hj; exact hi
  have hself : ∀ p, p = q → wt (t ++ [(q, w)]) p = wt t p + w := fun p e => by rw [wt_snoc, if_pos (isP_iff.2 e.symm)]
  have hoth : ∀ p, p ≠ q → wt (t ++ [(q, w)]) p = wt t p := fun p e => by rw [wt_snoc, if_neg (fun h => e (isP_iff.1 h).symm)]; omega
  have hpos := fun p => (wt_nonneg h.wf p).1
  cases hI with
  | over hov => simp only; rw [if_neg (by decide)]; exact h
  | zero hok h0 =>
    subst h0
    simp only
    rw [if_pos trivial]
    have hall : ∀ p, wt (t ++ [(q, 0)]) p = wt t p := fun p => by
      by_cases e : p = q
      · rw [hself p e]; omega
      · exact hoth p e
    refine ⟨hwf, by rw [tot_snoc, h.n]; simp, fun c hc => ?_, fun p hp => ?_⟩
    · rw [hall]; exact h.inn c hc
    · rw [hall]; exact h.out p hp
  | more hok h0 j c hj hp =>
    simp only
    rw [if_pos trivial]
    have hc := List.mem_of_getElem? hj
    have hpm := withC_perm (x.l.eraseIdx j) (q, c.2.1 + w, c.2.2)
    have hb := h.inn c hc
    refine ⟨hwf, by simp only; rw [tot_snoc, h.n], fun d hd => ?_, fun p hp' => ?_⟩
    · rcases List.mem_cons.1 (hpm.mem_iff.1 hd) with rfl | hd
      · simp only; rw [hself q rfl]; rw [hp] at hb; omega
      · have hdq : d.1 ≠ q := fun e => not_has_erase hM.asc hj ⟨d, hd, by rw [e, hp]⟩
        rw [hoth _ hdq]; exact h.inn d (List.mem_of_mem_eraseIdx hd)
    · have hpq : p ≠ q := fun e => hp' ⟨_, hpm.mem_iff.2 (List.mem_cons_self ..), e.symm⟩
      rw [hoth p hpq]
      refine h.out p fun hh => hp' ?_
      obtain ⟨d, hd, e⟩ := hh
      have hdc : d ≠ c := fun e2 => hpq (by rw [← e, e2, hp])
      have := (erase_perm hj).mem_iff.2 hd
      rcases List.mem_cons.1 this with e2 | hd2
      · exact absurd e2 hdc
      · exact ⟨d, hpm.mem_iff.2 (List.mem_cons_of_mem _ hd2), e⟩
  | evict hok h0 hn hk j c hj hm =>
    simp only
    rw [if_pos trivial]
    have hc := List.mem_of_getElem? hj
    have hpm := withC_perm (x.l.eraseIdx j) (q, c.2.1 + w, c.2.1)
    have hb := h.inn c hc
    have hce := hM.each c hc
    have hq := h.out q hn
    have hq0 := hpos q
    refine ⟨hwf, by simp only; rw [tot_snoc, h.n], fun d hd => ?_, fun p hp' => ?_⟩
    · rcases List.mem_cons.1 (hpm.mem_iff.1 hd) with rfl | hd
      · simp only; rw [hself q rfl]; omega
      · have hd' := List.mem_of_mem_eraseIdx hd
        have hdq : d.1 ≠ q := fun e => hn ⟨d, hd', e⟩
        rw [hoth _ hdq]; exact h.inn d hd'
    · have hpq : p ≠ q := fun e => hp' ⟨_, hpm.mem_iff.2 (List.mem_cons_self ..), e.symm⟩
      rw [hoth p hpq]
      simp only
      by_cases hpc : p = c.1
      · rw [hpc]; exact hb.2
      · have : ¬ Has x.l p := fun hh => hp' (by
          obtain ⟨d, hd, e⟩ := hh
          have := (erase_perm hj).mem_iff.2 hd
          rcases List.mem_cons.1 this with e2 | hd2
          · rw [← e, e2] at hpc; exact absurd rfl hpc
          · exact ⟨d, hpm.mem_iff.2 (List.mem_cons_of_mem _ hd2), e⟩)
        have := h.out p this
        omega
  | new hok h0 hn hk =>
    simp only
    rw [if_pos trivial]
    have hpm := withC_perm x.l (q, x.sl + w, x.sl)
    have hq := h.out q hn
    have hq0 := hpos q
    refine ⟨hwf, by simp only; rw [tot_snoc, h.n], fun d hd => ?_, fun p hp' => ?_⟩
    · rcases List.mem_cons.1 (hpm.mem_iff.1 hd) with rfl | hd
      · simp only; rw [hself q rfl]; omega
      · have hdq : d.1 ≠ q := fun e => hn ⟨d, hd, e⟩
        rw [hoth _ hdq]; exact h.inn d hd
    · have hpq : p ≠ q := fun e => hp' ⟨_, hpm.mem_iff.2 (List.mem_cons_self ..), e.symm⟩
      rw [hoth p hpq]
      exact h.out p fun ⟨d, hd, e⟩ => hp' ⟨d, hpm.mem_iff.2 (List.mem_cons_of_mem _ hd), e⟩
theorem ins_k {x : Sv} (hM : May x) (p : Pfx) (w : Int) : (ins x p w).1.k = x.k := by
  have hI := ins_is hM p w
  generalize ins x p w = y at hI
  cases hI <;> rfl
theorem runR_bnd {s : Sv × List Hq.Item} (h : Bnd s.1 s.2) (hM : May s.1) : ∀ l : List Hq.Item, WfL l → Bnd (runR s l).1 (runR s l).2 ∧ (runR s l).1.k = s.1.k
  | l, hl => by
    induction l generalizing s with
    | nil => exact ⟨h, rfl⟩
    | cons i r ih =>
      have hi := hl i (by simp)
      obtain ⟨h1, h2⟩ := ih (s := stepR s i) (h.step hM hi) (hM.ins hi.1 (ins_is hM i.1 i.2)) fun j hj => hl j (by simp [hj])
      exact ⟨h1, h2.trans (ins_k hM i.1 i.2)⟩
theorem runR_len {s : Sv × List Hq.Item} (l : List Hq.Item) : (runR s l).2.length ≤ s.2.length + l.length := by
    induction l generalizing s with
    | nil => exact Nat.le_refl _
    | cons i r ih =>
      have h1 := ih (s := stepR s i)
      have h2 : (stepR s i).2.length ≤ s.2.length + 1 := by
        unfold stepR
        simp only
        split
        · simp
        · omega
      have h3 : runR s (i :: r) = runR (stepR s i) r := rfl
      rw [h3, List.length_cons]
      omega
/-- What lies between is at most the K-th part. -/
theorem May.part {x : Sv} (hM : May x) : x.sl ≤ x.n / x.k := by
  have h1 := hM.sle
  have h2 := hM.k1
  rw [Int.le_ediv_iff_mul_le (by omega), Int.mul_comm]
  exact h1
theorem low_high {x : Sv} {t : List Hq.Item} (h : Bnd x t) (hM : May x) (p : Pfx) : lowS x p ≤ wt t p ∧ wt t p ≤ highS x p ∧ highS x p - lowS x p ≤ x.n / x.k ∧ 0 ≤ lowS x p ∧ highS x p ≤ x.n := by
  have hp := hM.part
  unfold lowS highS
  cases hg : getC x.l p with
  | none =>
    have := h.out p (getC_none hg)
    have := (wt_nonneg h.wf p).1
    have := hM.sln
    simp only; omega
  | some c =>
    obtain ⟨hc, e⟩ := getC_some hg
    have h1 := h.inn c hc
    have h2 := hM.each c hc
    have h3 := hM.le hc
    rw [e] at h1
    simp only; omega
/-! ### Walks -/
def placeI (l : List Cnt) (p : Pfx) : Int := match placeC l p with | some i => (i : Int) | none => -1
theorem placeI_has {l : List Cnt} {p : Pfx} : 0 ≤ placeI l p ↔ Has l p := by
  unfold placeI
  cases h : placeC l p with
  | none => simp only; exact ⟨fun h => by omega, fun hh => absurd hh (placeC_none h)⟩
  | some i =>
    obtain ⟨c, hc, e⟩ := placeC_some h
    simp only; exact ⟨fun _ => ⟨c, List.mem_of_getElem? hc, e⟩, fun _ => by omega⟩
theorem place_gives {W : World} {l : List Cnt} {a : Option Addr} {n c : Nat} (hr : RdL W 14 encN a l) (hn : n = l.length) (hlen : l.length < 1099511627776) (p : Pfx) :
    Gives Try.prog 56 #[.slice a n c, kv p] W fun v W' => v = .int .i64 (placeI l p) ∧ Below W.heap.size W W' := F56_fn (by
  unfold F56
  refine NewA.mk fun b3 W1 h3 hb3 hsz1 hbl1 => ?_
  refine Lp.enc (fun s : Int × Int => [.int .i64 s.1, .int .i64 s.2]) (fun s t hst => by simp at hst; exact Prod.ext hst.1 hst.2)
    (fun s W' => ∃ j : Nat, s.2 = (j : Int) ∧ j ≤ l.length ∧ (∀ i d, i < j → l[i]? = some d → d.1 ≠ p) ∧ Below W1.heap.size W1 W') (fun s _ => ((l.length : Int) + 1 - s.2).toNat) (0, 0) rfl ⟨0, rfl, Nat.zero_le _, fun i d hi => absurd hi (by omega), Below.refl _ _⟩ ?_
  rintro ⟨x4, x5⟩ W2 k ⟨j, hj, hjl, hno, hb2⟩ hk
  simp only at hj
  subst hj
  have hB2 := hbl1.trans (hb2.mono hbl1.size)
  refine AsI.mk (AsI.mk (If.dec (fun hlt => ?_) fun hge => ?_))
  · have hlt' : (j : Int) < (n : Int) := hlt
    have hx : l[j]? = some (l[j]'(by omega)) := List.getElem?_eq_getElem (by omega)
    generalize (l[j]'(by omega)) = d at hx
    obtain ⟨q, hq, hrow⟩ := (hr.bel hB2).row encN_len hx
    subst hq
    refine IdxS.mk rfl (by omega) ⟨encP d.1, rfl, row_take hrow 12, ?_⟩
    intro W3 hb3'
    have hB3 := hb2.trans (hb3'.mono hb2.size)
    refine LdNC.mk (belowAt hB3 h3) (cs := encP p) rfl rfl ?_
    refine eq65.eql (encP_typed d.1) (encP_typed p) fun r hr => ⟨_, rfl, If.split (fun h => ?_) fun h => ?_⟩
    · have e := encP_inj (hr.1 h)
      refine ⟨?_, hbl1.trans (hB3.mono hbl1.size)⟩
      have : placeC l p = some j := by
        unfold placeC
        rw [List.findIdx?_eq_some_iff_getElem]
        obtain ⟨hjl', ej⟩ := List.getElem?_eq_some_iff.1 hx
        refine ⟨hjl', by rw [ej]; exact isP_iff.2 e, fun i hi => ?_⟩
        have := hno i l[i] hi (List.getElem?_eq_getElem _)
        simp only [Bool.not_eq_true, isP_not]
        exact this
      unfold placeI; rw [this]
    · show k [.int .i64 x4, .int .i64 (IntKind.i64.wrap ((j : Int) + 1))] W3
      rw [nsucc (by omega)]
      refine hk (x4, ((j + 1 : Nat) : Int)) W3 ⟨j + 1, rfl, by omega, fun i e hi he => ?_, hB3⟩ (by simp only; omega)
      rcases Nat.lt_or_ge i j with h1 | h1
      · exact hno i e h1 he
      · have : i = j := by omega
        subst this
        rw [hx] at he; cases he
        intro hde
        have := hr.2 (by rw [hde])
        rw [h] at this; cases this
  · have hge' : ¬ (j : Int) < (n : Int) := hge
    refine ⟨?_, hB2⟩
    unfold placeI
    cases hp : placeC l p with
    | none => rfl
    | some i =>
      obtain ⟨d, hd, e⟩ := placeC_some hp
      exact absurd e (hno i d (by have := (List.getElem?_eq_some_iff.1 hd).1; omega) hd))
theorem weight_gives {W : World} {t : List Hq.Item} {a : Option Addr} {n c : Nat} (hr : RdL W 13 encC a t) (hn : n = t.length) (hlen : t.length < 1099511627776) (hw : WfL t) (ht : tot t < 18446744073709551616) (p : Pfx) :
    Gives Try.prog 55 #[.slice a n c, kv p] W fun v W' => v = .int .u64 (wt t p) ∧ Below W.heap.size W W' := F55_fn (by
  unfold F55
  refine NewA.mk fun b3 W1 h3 hb3 hsz1 hbl1 => ?_
  refine Lp.enc (fun s : Int × Int => [.int .u64 s.1, .int .i64 s.2]) (fun s t hst => by simp at hst; exact Prod.ext hst.1 hst.2)
    (fun s W' => ∃ j : Nat, s.2 = (j : Int) ∧ j ≤ t.length ∧ s.1 = wt (t.take j) p ∧ Below W1.heap.size W1 W') (fun s _ => ((t.length : Int) + 1 - s.2).toNat) (0, 0) rfl ⟨0, rfl, Nat.zero_le _, rfl, Below.refl _ _⟩ ?_
  rintro ⟨x4, x5⟩ W2 k ⟨j, hj, hjl, hs, hb2⟩ hk
  simp only at hj hs
  subst hj
  subst hs
  have hB2 := hbl1.trans (hb2.mono hbl1.size)
  refine AsI.mk (AsI.mk (If.dec (fun hlt => ?_) fun hge => ?_))
  · have hlt' : (j : Int) < (n : Int) := hlt
    have hx : t[j]? = some (t[j]'(by omega)) := List.getElem?_eq_getElem (by omega)
    generalize (t[j]'(by omega)) = d at hx
    have hdw := hw d (List.mem_of_getElem? hx)
    obtain ⟨q, hq, hrow⟩ := (hr.bel hB2).row encC_len hx
    subst hq
    refine IdxS.mk rfl (by omega) ⟨encP d.1, rfl, row_take hrow 12, ?_⟩
    intro W3 hb3'
    have hB3 := hb2.trans (hb3'.mono hb2.size)
    have hBW3 := hbl1.trans (hB3.mono hbl1.size)
    refine LdNC.mk (belowAt hB3 h3) (cs := encP p) rfl rfl ?_
    have hstep : wt (t.take (j + 1)) p = wt (t.take j) p + if isP d.1 p = true then d.2 else 0 := by rw [← (take_step hx).2, wt_snoc]
    have hrest : ∀ m, tot (t.take m) ≤ tot t ∧ WfL (t.take m) := fun m => by
      have e : tot t = tot (t.take m) + tot (t.drop m) := by
        have : ∀ a b : List Hq.Item, tot (a ++ b) = tot a + tot b := fun a b => by
          induction a with
          | nil => simp [tot]
          | cons x r ih => simp only [List.cons_append, tot, ih]; omega
        rw [← this, List.take_append_drop]
      have h0 := wt_nonneg (l := t.drop m) (fun i hi => hw i (List.mem_of_mem_drop hi)) p
      exact ⟨by omega, fun i hi => hw i (List.mem_of_mem_take hi)⟩
    have hr1 := hrest (j + 1)
    have hb1 := wt_nonneg hr1.2 p
    refine eq65.eql (encP_typed d.1) (encP_typed p) fun r hrr => ⟨_, rfl, Join.use fun J hJ => If.split (fun h => ?_) fun h => ?_⟩
    · have e := encP_inj (hrr.1 h)
      rw [if_pos (isP_iff.2 e)] at hstep
      obtain ⟨q', hq', hrow'⟩ := (hr.bel hBW3).row encC_len hx
      cases hq'
      refine IdxS.mk rfl (by omega) ⟨.int .u64 d.2, hrow' 12 _ rfl, _, rfl, ?_⟩
      dsimp only
      rw [hJ, ← hstep, wrap_u64 hb1.1 (by omega)]
      show k [.int .u64 (wt (t.take (j + 1)) p), .int .i64 (IntKind.i64.wrap ((j : Int) + 1))] W3
      rw [nsucc (by omega)]
      exact hk (wt (t.take (j + 1)) p, ((j + 1 : Nat) : Int)) W3 ⟨j + 1, rfl, by omega, rfl, hB3⟩ (by simp only; omega)
    · have e : ¬ isP d.1 p = true := fun hh => by
        have := hrr.2 (by rw [isP_iff.1 hh])
        rw [h] at this; cases this
      rw [if_neg e] at hstep
      rw [hJ]
      show k [.int .u64 (wt (t.take j) p), .int .i64 (IntKind.i64.wrap ((j : Int) + 1))] W3
      rw [nsucc (by omega)]
      exact hk (wt (t.take j) p, ((j + 1 : Nat) : Int)) W3 ⟨j + 1, rfl, by omega, by simp only; omega, hB3⟩ (by simp only; omega)
  · have hge' : ¬ (j : Int) < (n : Int) := hge
    rw [List.take_of_length_le (by omega)]
    exact ⟨rfl, hB2⟩)
end Go.Proofs.Ytcagnabglppenaa.Sv
