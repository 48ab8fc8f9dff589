/- A region that draws its order: the first part, in any order. -/
import Derived.Test.YtmhmlneobbgadaaGreatDoorVcF
namespace Go.Vc
open Go Go.RowKit

theorem late_not_select {P : Program} {l : Lates} {o : Oper} {x : LK} (h : lateOf P l o = some x) {cs : Array SelectCase} {b : Bool} (he : o.op = .select cs b) : False := by
  obtain ⟨dst, op, type, pos, after, guard⟩ := o
  simp only at he
  subst he
  unfold lateOf at h
  cases guard <;> cases dst <;> simp at h
/-! ### Any order -/
theorem nodupB_spec : ∀ (l : List Nat), nodupB l = true → l.Nodup
  | [], _ => List.nodup_nil
  | d :: r, h => by
    simp only [nodupB] at h
    split at h
    · cases h
    · rename_i hm
      exact List.nodup_cons.2 ⟨by rw [memB_false] at hm; exact hm, nodupB_spec r h⟩
theorem onB_spec {o : Oper} {j : Nat} (h : onB o j = true) : ∃ x ∈ o.after, Region.binds .any x = true ∧ x.on = j := by
  unfold onB at h
  obtain ⟨x, hx, hb⟩ := List.any_eq_true.1 h
  split at hb
  · rename_i hbb; exact ⟨x, by simpa using hx, hbb, Nat.eq_of_beq_eq_true hb⟩
  · cases hb
theorem looksB_spec {ops : List Oper} {o : Oper} (h : looksB ops o = true) {t : Nat} (ht : t ∈ o.looksAt ops.toArray) {j : Nat} {oj : Oper} (hj : ops[j]? = some oj) (hd : oj.dst = some t) :
    ∃ x ∈ o.after, Region.binds .any x = true ∧ x.on = j := by
  unfold looksB at h
  have h1 := List.all_eq_true.1 h t ht
  have hm : (oj, j) ∈ ops.zipIdx := by
    rw [List.mem_zipIdx_iff_getElem?]; exact hj
  have h2 := List.all_eq_true.1 h1 (oj, j) hm
  simp only [hd] at h2
  rw [Nat.beq_refl] at h2
  exact onB_spec h2
theorem lowB_spec {ops : List Oper} (h : lowB ops = true) {i : Nat} {o : Oper} (hi : ops[i]? = some o) : ∀ x ∈ o.after, Region.binds .any x = true → x.on < i := by
  intro x hx hb
  unfold lowB at h
  have h1 := List.all_eq_true.1 h (o, i) (by rw [List.mem_zipIdx_iff_getElem?]; exact hi)
  have h2 := List.all_eq_true.1 h1 x (by simpa using hx)
  rw [hb] at h2
  simp only [Nat.blt_eq] at h2
  exact h2
theorem ready_of_unlisted {ops : List Oper} (hl : lowB ops = true) {listed : Array Bool} (hs : listed.size = ops.length) : ∀ (n i : Nat), i ≤ n → i < ops.length → listed.getD i true = false →
    Region.ready .any ops.toArray listed ≠ [] := by
  intro n
  induction n with
  | zero =>
    intro i hi hlt hun h0
    have : i = 0 := by omega
    subst this
    have hm : 0 ∈ Region.ready .any ops.toArray listed := mem_ready.2 ⟨hun, ops[0], by simp [hlt], fun x hx hb => absurd (lowB_spec hl (List.getElem?_eq_getElem hlt) x hx hb) (by omega)⟩
    rw [h0] at hm; cases hm
  | succ n ih =>
    intro i hi hlt hun h0
    by_cases hall : ∀ x ∈ (ops[i]).after, Region.binds .any x = true → listed.getD x.on false = true
    · have hm : i ∈ Region.ready .any ops.toArray listed := mem_ready.2 ⟨hun, ops[i], by simp [hlt], hall⟩
      rw [h0] at hm; cases hm
    · simp only [Classical.not_forall] at hall
      obtain ⟨x, hx, hb, hnl⟩ := hall
      have hlow := lowB_spec hl (List.getElem?_eq_getElem hlt) x hx hb
      have hxs : x.on < listed.size := by rw [hs]; omega
      refine ih x.on (by omega) (by omega) ?_ h0
      cases hq : listed.getD x.on true with
      | false => rfl
      | true => exact absurd (by simp [hxs] at hq ⊢; exact hq) hnl
structure DInv (P : Program) (ops : List Oper) (T : List Nat) (a0 : Act) (w0 : World) (e1 : Env) (AL : List (Oper × Vl)) (LT : List Oper) (F : Lates) (listed : Array Bool) (a : Act) (w : World) : Prop where
  size : listed.size = ops.length
  closed : ∀ j oj, ops[j]? = some oj → listed.getD j false = true → ∀ x ∈ oj.after, Region.binds .any x = true → listed.getD x.on false = true
  tun : ∀ t ∈ T, listed.getD t true = false
  below : Below w0.heap.size w0 w
  defers : a.defers = a0.defers
  same : SameOff (dsts ops) a0.tmps a.tmps
  det : ∀ i o d, ops[i]? = some o → listed.getD i false = true → isAl P o = false → o ∉ LT → o.dst = some d → a.tmps[d]? = e1.get d
  late : ∀ o ∈ LT, ∀ i, ops[i]? = some o → listed.getD i false = true → ∃ v, (∀ d, o.dst = some d → a.tmps[d]? = some v) ∧ ∀ w, (execOp a.eval o).run P w = .ok (.value v) w
  ar : ∀ i o d y, ops[i]? = some o → listed.getD i false = true → o.dst = some d → F.get d = some y → ∃ v, a.tmps[d]? = some v ∧ ShapeK y v
  al : ∃ iv : Nat → Nat × Nat, (∀ p ∈ AL, ∀ i d, ops[i]? = some p.1 → listed.getD i false = true → p.1.dst = some d →
      ∃ v, a.tmps[d]? = some v ∧ w0.heap.size ≤ (iv d).1 ∧ (iv d).1 ≤ (iv d).2 ∧ (iv d).2 ≤ w.heap.size ∧ p.2 (iv d).1 (iv d).2 v w) ∧
    ∀ p ∈ AL, ∀ q ∈ AL, ∀ i j d c, ops[i]? = some p.1 → ops[j]? = some q.1 → listed.getD i false = true → listed.getD j false = true → p.1.dst = some d → q.1.dst = some c → d ≠ c →
      (iv d).2 ≤ (iv c).1 ∨ (iv c).2 ≤ (iv d).1
def unl (listed : Array Bool) : Nat := listed.toList.countP (fun b => !b)
theorem unl_set {listed : Array Bool} {i : Nat} (hi : listed.getD i true = false) : unl listed = unl (listed.setIfInBounds i true) + 1 := by
  have hlt : i < listed.size := by
    rcases Nat.lt_or_ge i listed.size with h | h
    · exact h
    · simp [Array.getElem?_eq_none h] at hi
  have hv : listed[i] = false := by simp [hlt] at hi; exact hi
  unfold unl
  have : (listed.setIfInBounds i true).toList = listed.toList.set i true := by simp
  rw [this, List.countP_set (by simpa using hlt)]
  have h1 : listed.toList[i]'(by simpa using hlt) = false := by simpa using hv
  have hpos : 0 < listed.toList.countP (fun b => !b) := List.countP_pos_iff.2 ⟨false, by rw [← h1]; exact List.getElem_mem _, rfl⟩
  have e1 : ((fun b => !b) (listed.toList[i]'(by simpa using hlt))) = true := by rw [h1]; rfl
  simp only [e1]
  rw [if_pos trivial, if_neg (by decide)]
  omega
theorem same_dst {ops : List Oper} (hnd : (dsts ops).Nodup) : ∀ {i j : Nat} {o p : Oper} {d : Nat}, ops[i]? = some o → ops[j]? = some p → o.dst = some d → p.dst = some d → i = j := by
  induction ops with
  | nil => intro i j o p d hi; simp at hi
  | cons x r ih =>
    intro i j o p d hi hj ho hp
    rw [dsts_cons] at hnd
    have hndr := (List.nodup_append.1 hnd).2.1
    have hx : ∀ d, x.dst = some d → d ∉ dsts r := fun d hd hm => (List.nodup_append.1 hnd).2.2 d (by rw [hd]; simp) d hm rfl
    cases i with
    | zero =>
      simp at hi; subst hi
      cases j with
      | zero => rfl
      | succ j =>
        simp at hj
        exact absurd (mem_dsts hp (List.mem_of_getElem? hj)) (hx d ho)
    | succ i =>
      simp at hi
      cases j with
      | zero =>
        simp at hj; subst hj
        exact absurd (mem_dsts ho (List.mem_of_getElem? hi)) (hx d hp)
      | succ j =>
        simp at hj
        rw [ih hndr hi hj ho hp]
theorem wanted_of {ops : List Oper} {e : Env} {a : Act} {o : Oper} {b : Bool} (h : wantE ops e o = some b)
    (hv : ∀ j want v, o.guard = some (j, want) → guardVal ops e j = some v → yielded ops.toArray a.tmps j = match v with | .bool b => some b | _ => none) :
    Region.wanted o (yielded ops.toArray a.tmps) = b := by
  unfold wantE at h
  unfold Region.wanted
  split at h
  · rename_i hg; rw [hg]; simpa using h
  · rename_i j want hg
    rw [hg]
    split at h
    · rename_i c hc
      have := hv j want _ hg hc
      simp only at this ⊢
      rw [this]
      simpa using h
    · rename_i vs hc
      have := hv j want _ hg hc
      simp only at this ⊢
      rw [this]
      simpa using h
    · cases h
theorem sunkL_spec {ops : List Oper} {m : Nat} : ∀ (k : Nat) (acc : List Nat), (∀ j ∈ acc, k ≤ j ∧ j ≤ m) → (∀ j ∈ acc, j ∈ sunkL ops k acc) ∧
    ∀ i ∈ sunkL ops k acc, i ∈ acc ∨ ∃ j ∈ sunkL ops k acc, i < j ∧ j ≤ m ∧ waitsB ops j i = true
  | 0, acc, _ => ⟨fun _ h => h, fun _ h => .inl h⟩
  | k + 1, acc, hacc => by
    simp only [sunkL]
    split
    · rename_i hany
      obtain ⟨j, hj, hw⟩ := List.any_eq_true.1 hany
      have hacc' : ∀ x ∈ k :: acc, k ≤ x ∧ x ≤ m := by
        intro x hx
        cases hx with
        | head => have := hacc j hj; omega
        | tail _ hx => have := hacc x hx; omega
      obtain ⟨h1, h2⟩ := sunkL_spec k (k :: acc) hacc'
      refine ⟨fun x hx => h1 x (by simp [hx]), fun i hi => ?_⟩
      rcases h2 i hi with h | h
      · cases h with
        | head => exact .inr ⟨j, h1 j (by simp [hj]), by have := hacc j hj; omega, (hacc j hj).2, hw⟩
        | tail _ h => exact .inl h
      · exact .inr h
    · exact sunkL_spec k acc fun x hx => by have := hacc x hx; omega
theorem sunk_spec {ops : List Oper} {t0 : Nat} {T : List Nat} {i : Nat} (hi : i ∈ sunk ops (t0 :: T)) : i = t0 ∨ ∃ j ∈ sunk ops (t0 :: T), i < j ∧ j ≤ t0 ∧ waitsB ops j i = true := by
  unfold sunk at *
  simp only at hi ⊢
  rcases (sunkL_spec (ops := ops) (m := t0) t0 [t0] (fun j hj => by simp at hj; omega)).2 i hi with h | h
  · simp at h; exact .inl h
  · exact .inr h
theorem waitsB_spec {ops : List Oper} {j i : Nat} (h : waitsB ops j i = true) : ∃ oj, ops[j]? = some oj ∧ ∃ x ∈ oj.after, Region.binds .any x = true ∧ x.on = i := by
  unfold waitsB at h
  split at h
  · rename_i o ho; exact ⟨o, ho, onB_spec h⟩
  · cases h
theorem chainOk_lt {ops : List Oper} : ∀ {T : List Nat}, chainOk ops T = true → ∀ i ∈ T, i < ops.length
  | [], _, i, h => by cases h
  | [x], hc, i, h => by
    simp only [chainOk, Nat.blt_eq] at hc
    simp at h; subst h; exact hc
  | x :: y :: r, hc, i, h => by
    simp only [chainOk] at hc
    split at hc
    · rename_i hb
      simp only [Bool.and_eq_true, Nat.blt_eq] at hb
      cases h with
      | head => exact hb.1
      | tail _ h => exact chainOk_lt hc i h
    · cases hc
theorem chainOk_spec {ops : List Oper} : ∀ {T : List Nat}, chainOk ops T = true → ∀ {k i j : Nat}, T[k]? = some i → T[k + 1]? = some j → waitsB ops j i = true
  | [], _, k, i, j, h, _ => by simp at h
  | [x], _, k, i, j, _, h => by simp at h
  | x :: y :: r, hc, k, i, j, h1, h2 => by
    simp only [chainOk] at hc
    split at hc
    · rename_i hb
      simp only [Bool.and_eq_true] at hb
      cases k with
      | zero => simp at h1 h2; subst h1; subst h2; exact hb.2
      | succ k => exact chainOk_spec hc (k := k) (by simpa using h1) (by simpa using h2)
    · cases hc
theorem chain_asc {ops : List Oper} (hlow : lowB ops = true) : ∀ {T : List Nat} {t0 : Nat}, chainOk ops (t0 :: T) = true → ∀ j ∈ t0 :: T, t0 ≤ j
  | [], t0, _, j, hj => by simp at hj; omega
  | y :: r, t0, hc, j, hj => by
    have hw := chainOk_spec hc (k := 0) (i := t0) (j := y) rfl rfl
    obtain ⟨oj, hoj, x, hx, hxb, hxo⟩ := waitsB_spec hw
    have hlt := lowB_spec hlow hoj x hx hxb
    have hc' : chainOk ops (y :: r) = true := by
      simp only [chainOk] at hc
      split at hc
      · exact hc
      · cases hc
    cases hj with
    | head => exact Nat.le_refl _
    | tail _ hj => have := chain_asc hlow hc' j hj; omega
theorem unl_false {listed : Array Bool} {i : Nat} (hi : i < listed.size) (h : ¬ listed.getD i false = true) : listed.getD i true = false := by
  cases hq : listed.getD i true with
  | false => rfl
  | true => exact absurd (by simp [hi] at hq ⊢; exact hq) h
/-- As long as one that must be done is not done, the tail waits. -/
theorem tail_waits' {ops : List Oper} {T : List Nat} {listed : Array Bool} (hlow : lowB ops = true) (hc : chainOk ops T = true) (hsz : listed.size = ops.length)
    (closed : ∀ j oj, ops[j]? = some oj → listed.getD j false = true → ∀ x ∈ oj.after, Region.binds .any x = true → listed.getD x.on false = true)
    (tun : ∀ t ∈ T, listed.getD t true = false) :
    ∀ (d i : Nat), ops.length - i = d → i ∉ T → i ∈ sunk ops T → listed.getD i true = false → ∀ t ∈ T, t ∉ Region.ready .any ops.toArray listed := by
  intro d
  induction d using Nat.strongRecOn with
  | _ d ih =>
    intro i hd hi hs hun t ht hr
    obtain ⟨_, ot, hot, hall⟩ := mem_ready.1 hr
    obtain ⟨k, hk⟩ := List.getElem?_of_mem ht
    cases k with
    | zero =>
      match T, hk with
      | t0 :: T', hk =>
        simp at hk; subst hk
        rcases sunk_spec hs with h | ⟨j, hj, hij, hjt, hw⟩
        · subst h; simp at hi
        · obtain ⟨oj, hoj, x, hx, hxb, hxo⟩ := waitsB_spec hw
          by_cases hjt' : j = t0
          · subst hjt'
            have : oj = ot := Option.some.inj ((by simpa using hoj.symm : some oj = ops[j]?).trans (by simpa using hot))
            subst this
            have h2 := hall x hx hxb
            rw [hxo, getD_both hun] at h2
            cases h2
          · have hjl : j < ops.length := (List.getElem?_eq_some_iff.1 hoj).1
            by_cases hl : listed.getD j false = true
            · have h2 := closed j oj hoj hl x hx hxb
              rw [hxo, getD_both hun] at h2
              cases h2
            · have hjT : j ∉ t0 :: T' := fun hm => by
                have := chain_asc hlow hc j hm
                omega
              exact ih (ops.length - j) (by omega) j rfl hjT hj (unl_false (by omega) hl) t0 ht hr
    | succ k =>
      have hlt : k < T.length := by
        have := (List.getElem?_eq_some_iff.1 hk).1; omega
      have hw := chainOk_spec hc (List.getElem?_eq_getElem hlt) hk
      obtain ⟨oj, hoj, x, hx, hxb, hxo⟩ := waitsB_spec hw
      have : oj = ot := Option.some.inj ((by simpa using hoj.symm : some oj = ops[t]?).trans (by simpa using hot))
      subst this
      have h2 := hall x hx hxb
      rw [hxo, getD_both (tun _ (List.getElem_mem hlt))] at h2
      cases h2
theorem late_defer {P : Program} {F : Lates} {o : Oper} {x : LK} (h : lateOf P F o = some x) : ∀ c, o.op ≠ .defer c := fun c hc => by
  unfold lateOf at h
  rw [hc] at h
  split at h
  · cases h
  · split at h
    · cases h
    · cases h
/-- In whatever order the first part of the region goes. -/
theorem dinv_any {ro : Option Nat} {P : Program} {ops : List Oper} {T : List Nat} {a0 : Act} {w0 : World} {e0 e1 : Env} {AL : List (Oper × Vl)} {LT : List Oper} {F : Lates} {Q : Exit → Act → World → Prop}
    (hnd : (dsts ops).Nodup) (hlook : ∀ o ∈ ops, looksB ops o = true) (hlow : lowB ops = true)
    (hchain : chainOk ops T = true)
    (hf0 : e0.fits a0.tmps) (hout : ∀ n, n ∉ dsts ops → e1.get n = e0.get n)
    (hsz : ∀ d ∈ dsts ops, d < a0.tmps.size)
    (hdet : ∀ i o, ops[i]? = some o → i ∉ T → isAl P o = true ∨ o ∈ LT ∨ DetOK P ops w0 e1 o)
    (hnone : ∀ i o d, ops[i]? = some o → ((isAl P o = true ∨ o ∈ LT) ∨ i ∈ T) → o.dst = some d → e1.get d = none)
    (hLT : ∀ o ∈ LT, isAl P o = false ∧ o.guard = none ∧ ∃ x d, lateOf P F o = some x ∧ o.dst = some d ∧ F.get d = some x)
    (hFal : ∀ i o d, ops[i]? = some o → i ∉ T → isAl P o = true → o.dst = some d → F.get d = some (alAr P o))
    (hFin : ∀ t y, F.get t = some y → ∃ (j : Nat) (oj : Oper), ops[j]? = some oj ∧ oj.dst = some t ∧ (isAl P oj = true ∨ oj ∈ LT))
    (hal : ∀ i o, ops[i]? = some o → i ∉ T → isAl P o = true → ∃ V, (o, V) ∈ AL)
    (hALok : ∀ p ∈ AL, AlOK P e1 w0 p.1 p.2 ∧ isAl P p.1 = true) (hALu : ∀ p ∈ AL, ∀ q ∈ AL, p.1 = q.1 → p.2 = q.2)
    (hend : ∀ listed a w f, DInv P ops T a0 w0 e1 AL LT F listed a w → (∀ i, i ∉ T → i ∈ sunk ops T → listed.getD i false = true) → unl listed = f → wpAnyIn (FW ro) 0 P .any ops.toArray Q f listed a w) :
    ∀ (f : Nat) (listed : Array Bool) (a : Act) (w : World), DInv P ops T a0 w0 e1 AL LT F listed a w → unl listed = f → wpAnyIn (FW ro) 0 P .any ops.toArray Q f listed a w := by
  intro f
  induction f with
  | zero =>
    intro listed a w inv hu
    refine hend listed a w 0 inv (fun i hi his => ?_) hu
    cases hq : listed.getD i true with
    | true =>
      rcases Nat.lt_or_ge i listed.size with hlt | hge
      · simp [hlt] at hq ⊢; exact hq
      · exfalso
        have hil : i < ops.length := by
          unfold sunk at his
          split at his
          · exact List.mem_range.1 his
          · rename_i t0 T'
            have h0 := chainOk_lt hchain t0 (by simp)
            rcases sunk_spec (ops := ops) (t0 := t0) (T := T') (i := i) (by unfold sunk; exact his) with h | ⟨j, _, h1, h2, _⟩
            · omega
            · omega
        rw [inv.size] at hge
        omega
    | false => have := unl_set hq; omega
  | succ f ih =>
    intro listed a w inv hu
    by_cases hall : ∀ i, i ∉ T → i ∈ sunk ops T → listed.getD i false = true
    · exact hend listed a w (f + 1) inv hall hu
    · simp only [Classical.not_forall] at hall
      obtain ⟨i0, hi0, hs0, hun0⟩ := hall
      have hsize : listed.size = ops.length := inv.size
      have hlen0 : i0 < ops.length := by
        unfold sunk at hs0
        split at hs0
        · exact List.mem_range.1 hs0
        · rename_i t0 T'
          have h0 := chainOk_lt hchain t0 (by simp)
          rcases sunk_spec (ops := ops) (t0 := t0) (T := T') (i := i0) (by unfold sunk; exact hs0) with h | ⟨j, _, h1, h2, _⟩
          · omega
          · omega
      have hlt0 : i0 < listed.size := by rw [hsize]; exact hlen0
      have hun0' : listed.getD i0 true = false := unl_false hlt0 hun0
      refine ⟨fun h0 => absurd h0 (ready_of_unlisted hlow hsize _ i0 (Nat.le_refl _) (by omega) hun0'), fun i hi => ?_⟩
      -- an operation of the first part
      have him : i ∉ T := fun h => tail_waits' hlow hchain hsize inv.closed inv.tun _ i0 rfl hi0 hs0 hun0' i h hi
      obtain ⟨hun, o, ho, hready⟩ := mem_ready.1 hi
      have ho' : ops[i]? = some o := by simpa using ho
      have hmem : o ∈ ops := List.mem_of_getElem? ho'
      -- what the operation looks at stands in the frame
      have slot : ∀ t ∈ o.looksAt ops.toArray, ∀ v, e1.get t = some v → a.tmps[t]? = some v := by
        intro t ht v hv
        by_cases htd : t ∈ dsts ops
        · obtain ⟨j, oj, hj, hjd⟩ := dsts_mem htd
          obtain ⟨x, hx, hxb, hxo⟩ := looksB_spec (hlook o hmem) ht hj hjd
          have hlj := hready x hx hxb
          rw [hxo] at hlj
          have hjal : isAl P oj = false := by
            cases hq : isAl P oj with
            | false => rfl
            | true => rw [hnone j oj t hj (.inl (.inl hq)) hjd] at hv; cases hv
          have hjlt : oj ∉ LT := fun hq => by rw [hnone j oj t hj (.inl (.inr hq)) hjd] at hv; cases hv
          rw [inv.det j oj t hj hlj hjal hjlt hjd]; exact hv
        · rw [inv.same.2 t (by rw [memB_false]; exact htd)]
          exact hf0 t v (by rw [← hout t htd]; exact hv)
      have hrho : knownL e1 o.op.operands.toList = true → ∀ x ∈ o.op.operands, rho e1 x = a.eval x := by
        intro hk x hx
        have key : ∀ (l : List Operand), knownL e1 l = true → x ∈ l → ∃ v, ev e1 x = some v := by
          intro l
          induction l with
          | nil => intro _ h; cases h
          | cons y r ihr =>
            intro hk h
            simp only [knownL] at hk
            split at hk
            · rename_i v hv
              cases h with
              | head => exact ⟨v, hv⟩
              | tail _ h => exact ihr hk h
            · cases hk
        obtain ⟨v, hv⟩ := key _ hk (by simpa using hx)
        unfold rho; rw [hv]
        cases x with
        | tmp t =>
          have := slot t (by unfold Oper.looksAt; exact List.mem_append_left _ (List.mem_filterMap.2 ⟨.tmp t, by simpa using hx, rfl⟩)) v hv
          simp [Act.eval, this]
        | const u => cases hv; rfl
        | global g => cases hv; rfl
        | func g => cases hv; rfl
      have hlo : ∀ d, o.dst = some d → d ∈ dsts ops := fun d hd => mem_dsts hd hmem
      have hszd : ∀ d, o.dst = some d → d < a.tmps.size := fun d hd => by rw [inv.same.1]; exact hsz d (hlo d hd)
      have getset : ∀ j, (listed.setIfInBounds i true).getD j false = true → j = i ∨ listed.getD j false = true := by
        intro j hj
        by_cases hij : i = j
        · exact .inl hij.symm
        · rw [getD_set_ne false hij] at hj; exact .inr hj
      have putd : ∀ (v : Value) d, o.dst = some d → (a.put o.dst v).tmps[d]? = some v := by
        intro v d hd
        rw [hd]
        simp only [Act.put]
        rw [Array.getElem?_setIfInBounds_self_of_lt (hszd d hd)]
      have puto : ∀ (v : Value) j oj d, ops[j]? = some oj → j ≠ i → oj.dst = some d → (a.put o.dst v).tmps[d]? = a.tmps[d]? := by
        intro v j oj d hj hji hd
        cases hod : o.dst with
        | none => rfl
        | some x =>
          have : x ≠ d := fun h => hji (same_dst hnd hj ho' hd (by rw [hod, h]))
          simp only [Act.put]
          rw [Array.getElem?_setIfInBounds_ne this]
      -- the state behind it
      have keeplate : ∀ o' ∈ LT, ∀ j, ops[j]? = some o' → listed.getD j false = true → ∀ v, execOp (a.put o.dst v).eval o' = execOp a.eval o' := by
        intro o' ho'l j hj hlj v
        have hsel : ∀ cs b, o'.op ≠ .select cs b := fun cs b he => by
          obtain ⟨_, _, x, d, hl, _⟩ := hLT o' ho'l
          exact late_not_select hl he
        refine execOp_put (ops := ops.toArray) o' hsel a o.dst v fun d hd hlk => ?_
        obtain ⟨x, hx, hxb, hxo⟩ := looksB_spec (hlook o' (List.mem_of_getElem? hj)) hlk ho' hd
        have hc := inv.closed j o' hj hlj x hx hxb
        rw [hxo] at hc
        have hlt : i < listed.size := by rw [hsize]; exact (List.getElem?_eq_some_iff.1 ho').1
        simp [hlt] at hc hun
        rw [hun] at hc; cases hc
      have next : ∀ (v : Value) (w' : World), Below w.heap.size w w' → (isAl P o = false → o ∉ LT → ∀ d, o.dst = some d → e1.get d = some v) →
          (isAl P o = true → ∀ p ∈ AL, p.1 = o → p.2 w.heap.size w'.heap.size v w') →
          (o ∈ LT → ∀ w, (execOp a.eval o).run P w = .ok (.value v) w) →
          (∀ d y, o.dst = some d → F.get d = some y → ShapeK y v) →
          wpAnyIn (FW ro) 0 P .any ops.toArray Q f (listed.setIfInBounds i true) (a.put o.dst v) w' := by
        intro v w' hb hvd hva hvl hvar
        refine ih _ _ _ ⟨by simp [hsize], ?_, ?_, ?_, ?_, ?_, ?_, ?_, ?_, ?_⟩ ?_
        · intro j oj hj hlj x hx hxb
          by_cases hji : j = i
          · subst hji
            have : oj = o := Option.some.inj (hj.symm.trans ho')
            subst this
            exact getD_set_true (hready x hx hxb)
          · exact getD_set_true (inv.closed j oj hj ((getset j hlj).resolve_left hji) x hx hxb)
        · intro t ht
          rw [getD_set_ne true (fun (h : i = t) => him (by rw [h]; exact ht))]; exact inv.tun t ht
        · exact inv.below.trans (hb.mono inv.below.size)
        · rw [put_defers]; exact inv.defers
        · exact inv.same.trans (SameOff.put a v hlo)
        · intro j oj d hj hlj hjal hjlt hjd
          by_cases hji : j = i
          · subst hji
            have : oj = o := Option.some.inj (hj.symm.trans ho')
            subst this
            rw [putd v d hjd, hvd hjal hjlt d hjd]
          · rw [puto v j oj d hj hji hjd]
            exact inv.det j oj d hj ((getset j hlj).resolve_left hji) hjal hjlt hjd
        · intro o' ho'l j hj hlj
          by_cases hji : j = i
          · subst hji
            have : o' = o := Option.some.inj (hj.symm.trans ho')
            subst this
            refine ⟨v, fun d hd => putd v d hd, fun w => ?_⟩
            have hself : execOp (a.put o'.dst v).eval o' = execOp a.eval o' := by
              have hsel : ∀ cs b, o'.op ≠ .select cs b := fun cs b he => by
                obtain ⟨_, _, x, d, hl, _⟩ := hLT o' ho'l
                exact late_not_select hl he
              refine execOp_put (ops := ops.toArray) o' hsel a o'.dst v fun d hd hlk => ?_
              obtain ⟨x, hx, hxb, hxo⟩ := looksB_spec (hlook o' hmem) hlk ho' hd
              have := lowB_spec hlow ho' x hx hxb
              omega
            rw [hself]; exact hvl ho'l w
          · obtain ⟨u, hu1, hu2⟩ := inv.late o' ho'l j hj ((getset j hlj).resolve_left hji)
            exact ⟨u, fun d hd => by rw [puto v j o' d hj hji hd]; exact hu1 d hd, fun w => by rw [keeplate o' ho'l j hj ((getset j hlj).resolve_left hji) v]; exact hu2 w⟩
        · intro j oj d y hj hlj hjd hF
          by_cases hji : j = i
          · subst hji
            have : oj = o := Option.some.inj (hj.symm.trans ho')
            subst this
            exact ⟨v, putd v d hjd, hvar d y hjd hF⟩
          · rw [puto v j oj d hj hji hjd]
            exact inv.ar j oj d y hj ((getset j hlj).resolve_left hji) hjd hF
        · obtain ⟨iv, hiv1, hiv2⟩ := inv.al
          have hself : ∀ j (p : Oper × Vl) d, ops[j]? = some p.1 → p.1.dst = some d → o.dst = some d → j = i := fun j p d hj hd hod => same_dst hnd hj ho' hd hod
          have hivo : ∀ j (p : Oper × Vl) d, ops[j]? = some p.1 → p.1.dst = some d → j ≠ i → (if o.dst = some d then (w.heap.size, w'.heap.size) else iv d) = iv d := fun j p d hj hd hji => if_neg fun h => hji (hself j p d hj hd h)
          refine ⟨fun d => if o.dst = some d then (w.heap.size, w'.heap.size) else iv d, fun p hp j d hj hlj hd => ?_, fun p hp q hq j j' d c hj hj' hlj hlj' hd hc hdc => ?_⟩
          · by_cases hji : j = i
            · subst hji
              have hpo : p.1 = o := Option.some.inj (hj.symm.trans ho')
              have hu2 := hva (by rw [← hpo]; exact (hALok p hp).2) p hp hpo
              have hod : o.dst = some d := by rw [← hpo]; exact hd
              simp only [if_pos hod]
              exact ⟨v, putd v d hod, inv.below.size, hb.size, Nat.le_refl _, hu2⟩
            · obtain ⟨u, hu1, h2, h3, h4, hu2⟩ := hiv1 p hp j d hj ((getset j hlj).resolve_left hji) hd
              simp only [hivo j p d hj hd hji]
              exact ⟨u, by rw [puto v j p.1 d hj hji hd]; exact hu1, h2, h3, Nat.le_trans h4 hb.size, (hALok p hp).1.2.2.2.1 _ _ u w w' hb hu2⟩
          · by_cases hji : j = i
            · by_cases hji' : j' = i
              · exfalso
                have h1 : p.1 = q.1 := Option.some.inj (hj.symm.trans (by rw [hji, ← hji']; exact hj'))
                rw [h1] at hd
                exact hdc (Option.some.inj (hd.symm.trans hc))
              · obtain ⟨u, _, _, _, h4, _⟩ := hiv1 q hq j' c hj' ((getset j' hlj').resolve_left hji') hc
                have hod : o.dst = some d := by
                  have : p.1 = o := Option.some.inj (hj.symm.trans (by rw [hji]; exact ho'))
                  rw [← this]; exact hd
                simp only [hivo j' q c hj' hc hji', if_pos hod]
                exact .inr h4
            · by_cases hji' : j' = i
              · obtain ⟨u, _, _, _, h4, _⟩ := hiv1 p hp j d hj ((getset j hlj).resolve_left hji) hd
                have hoc : o.dst = some c := by
                  have : q.1 = o := Option.some.inj (hj'.symm.trans (by rw [hji']; exact ho'))
                  rw [← this]; exact hc
                simp only [hivo j p d hj hd hji, if_pos hoc]
                exact .inl h4
              · simp only [hivo j p d hj hd hji, hivo j' q c hj' hc hji']
                exact hiv2 p hp q hq j j' d c hj hj' ((getset j hlj).resolve_left hji) ((getset j' hlj').resolve_left hji') hd hc hdc
        · have := unl_set hun; omega
      have hguard : ∀ j want v, o.guard = some (j, want) → guardVal ops e1 j = some v → yielded ops.toArray a.tmps j = match v with | .bool b => some b | _ => none := by
        intro j want v hg hv
        have hv' := hv
        unfold guardVal at hv'
        split at hv'
        · rename_i oj hj
          split at hv'
          · rename_i d hd
            have := slot d (by
              unfold Oper.looksAt
              refine List.mem_append_right _ ?_
              rw [hg]
              simp [hj, hd]) v hv'
            unfold yielded
            simp only [List.getElem?_toArray, hj, Option.bind_some, hd, this]
            cases v <;> rfl
          · cases hv'
        · cases hv'
      unfold wpOpIn
      rw [ho]
      simp only
      by_cases hisal : isAl P o = true
      · obtain ⟨V, hV⟩ := hal i o ho' him hisal
        have hnl : o ∉ LT := fun h => by rw [(hLT o h).1] at hisal; cases hisal
        have hwant : Region.wanted o (yielded ops.toArray a.tmps) = true := by unfold Region.wanted; rw [(hALok _ hV).1.1]
        rw [if_pos hwant]
        have hok := (hALok _ hV).1
        have hy := hok.2.2.2.2.1 w inv.below
        rw [execOp_congr o (not_select hok.2.1) (hrho hok.2.2.1)] at hy
        refine wp_of_yield hok.2.1 hy (fun u w' hu => ?_) (fun _ _ h => h.elim)
        refine next u w' hu.1 (fun h => by rw [hisal] at h; cases h) (fun _ p hp hpo => by rw [hALu p hp _ hV hpo]; exact hu.2) (fun h => absurd h hnl) (fun d y hd hF => ?_)
        rw [hFal i o d ho' him hisal hd] at hF
        cases hF
        exact hok.2.2.2.2.2 _ _ u w' hu.2
      · by_cases hl : o ∈ LT
        · obtain ⟨hnal, hg, x, d, hlo', hd, hFd⟩ := hLT o hl
          have hwant : Region.wanted o (yielded ops.toArray a.tmps) = true := by unfold Region.wanted; rw [hg]
          rw [if_pos hwant]
          -- what the slot that it hangs on holds
          have arity : ∀ t y, t ∈ o.looksAt ops.toArray → F.get t = some y → ∃ v, a.tmps[t]? = some v ∧ ShapeK y v := by
            intro t n ht hF
            obtain ⟨j, oj, hj, hjd, _⟩ := hFin t _ hF
            obtain ⟨e, he, heb, heo⟩ := looksB_spec (hlook o hmem) ht hj hjd
            have hlj := hready e he heb
            rw [heo] at hlj
            exact inv.ar j oj t n hj hlj hjd hF
          have go : ∀ v, (∀ w, (execOp a.eval o).run P w = .ok (.value v) w) → ShapeK x v →
              o.wpIn (FW ro) 0 P a w (wpAnyIn (FW ro) 0 P .any ops.toArray Q f (listed.setIfInBounds i true)) Q := by
            intro v hv hx
            refine ⟨fun _ _ => trivial, ?_⟩
            rw [Oper.semAt_eq _ _ _ (late_defer (hLT o hl).2.2.choose_spec.choose_spec.1), hv w]
            simp only [Oper.uponIn]
            refine next v w (Below.refl _ _) (fun _ h => absurd hl h) (fun h => absurd h hisal) (fun _ => hv) (fun d' n hd' hF => ?_)
            rw [hd] at hd'
            cases hd'
            rw [hFd] at hF
            cases hF
            exact hx
          have hlooks : ∀ t, Operand.tmp t ∈ o.op.operands → t ∈ o.looksAt ops.toArray := fun t ht => by
            unfold Oper.looksAt
            exact List.mem_append_left _ (List.mem_filterMap.2 ⟨.tmp t, by simpa using ht, rfl⟩)
          have ev_of : ∀ t v, a.tmps[t]? = some v → a.eval (.tmp t) = v := fun t v h => by simp [Act.eval, h]
          obtain ⟨dst, op, type, pos, after, guard⟩ := o
          simp only at hg hd
          subst hg
          subst hd
          unfold lateOf at hlo'
          simp only at hlo'
          split at hlo'
          · rename_i t
            refine go (a.eval (.tmp t)) (fun w => rfl) ?_
            obtain ⟨v, h1, h2⟩ := arity t x (hlooks t (by simp [Op.operands])) hlo'
            rw [ev_of t _ h1]; exact h2
          · rename_i t
            refine go (a.eval (.tmp t)) (fun w => rfl) ?_
            obtain ⟨v, h1, h2⟩ := arity t x (hlooks t (by simp [Op.operands])) hlo'
            rw [ev_of t _ h1]; exact h2
          · rename_i t ix
            split at hlo'
            · rename_i n hF
              split at hlo'
              · rename_i hlt
                cases hlo'
                obtain ⟨v, h1, vs, rfl, h2⟩ := arity t _ (hlooks t (by simp [Op.operands])) hF
                have hix : ix < vs.size := by rw [h2]; simpa [Nat.blt_eq] using hlt
                refine go vs[ix] (fun w => ?_) trivial
                simp [execOp, ev_of t _ h1, Instr.extract, hix]
              · cases hlo'
            · cases hlo'
          · rename_i c
            obtain ⟨callee, args, argTypes⟩ := c
            obtain ⟨args⟩ := args
            simp only at hlo'
            split at hlo'
            · split at hlo'
              · rename_i t
                split at hlo'
                · rename_i hF
                  split at hlo'
                  · rename_i t0 ht0
                    split at hlo'
                    · rename_i hsl
                      cases hlo'
                      obtain ⟨v, h1, A, n, cc, rfl⟩ := arity t _ (hlooks t (by simp [Op.operands, Call.operands])) hF
                      obtain ⟨el, hel⟩ : ∃ el, P.underlying t0 = some (.slice el) := by
                        unfold isSl at hsl
                        split at hsl
                        · exact ⟨_, by assumption⟩
                        · cases hsl
                      refine go (.int .i64 n) (fun w => ?_) trivial
                      simp [execOp, resolve, invoke, builtin, Builtin.len_, ev_of t _ h1, ht0, run_underlying' hel, goInt]
                    · cases hlo'
                  · cases hlo'
                · cases hlo'
              · cases hlo'
            · cases hlo'
          · cases hlo'
        · have hisal' : isAl P o = false := by simpa using hisal
          obtain ⟨v, hvd, hcase⟩ := ((hdet i o ho' him).resolve_left hisal).resolve_left hl
          have hFno : ∀ d y, o.dst = some d → F.get d = some y → ShapeK y v := fun d n hd hF => by
            obtain ⟨j, oj, hj, hjd, hc⟩ := hFin d _ hF
            have hji := same_dst hnd hj ho' hjd hd
            subst hji
            have : oj = o := Option.some.inj (hj.symm.trans ho')
            subst this
            rcases hc with hc | hc
            · exact absurd hc hisal
            · exact absurd hc hl
          rcases hcase with ⟨hw, hs, hk, _, hy⟩ | ⟨hw, hv⟩
          · have hwant := wanted_of (a := a) hw hguard
            rw [if_pos hwant]
            have hy' := hy w inv.below
            rw [execOp_congr o (not_select hs) (hrho hk)] at hy'
            refine wp_of_yield hs hy' (fun u w' hu => ?_) (fun _ _ h => h.elim)
            obtain ⟨rfl, hb⟩ := hu
            exact next u w' hb (fun _ _ => hvd) (fun h => absurd h hisal) (fun h => absurd h hl) hFno
          · have hwant := wanted_of (a := a) hw hguard
            rw [if_neg (by rw [hwant]; decide)]
            subst hv
            exact ⟨fun _ _ => trivial, next undef w (Below.refl _ _) (fun _ _ => hvd) (fun h => absurd h hisal) (fun h => absurd h hl) hFno⟩
end Go.Vc
