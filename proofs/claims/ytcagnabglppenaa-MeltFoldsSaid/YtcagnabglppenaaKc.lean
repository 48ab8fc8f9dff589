/- Heaps in a list: plain laws. -/
import Derived.Test.YtcagnabglppenaaLa
namespace Go.Proofs.Ytcagnabglppenaa.Hl

section
variable {α : Type} {le : α → α → Prop}
def par (i : Nat) : Nat := (i - 1) / 2
def HeapL (le : α → α → Prop) (l : List α) : Prop := ∀ i x y, 0 < i → l[i]? = some x → l[par i]? = some y → le y x
/-- But for what stands at c. -/
def Alm (le : α → α → Prop) (l : List α) (c : Nat) : Prop :=
  (∀ i x y, 0 < i → i ≠ c → par i ≠ c → l[i]? = some x → l[par i]? = some y → le y x) ∧ ∀ i x y, 0 < c → 0 < i → par i = c → l[i]? = some x → l[par c]? = some y → le y x
/-- But for what stands above c. -/
def AlmU (le : α → α → Prop) (l : List α) (c : Nat) : Prop :=
  (∀ i x y, 0 < i → i ≠ c → l[i]? = some x → l[par i]? = some y → le y x) ∧ ∀ i x y, 0 < c → 0 < i → par i = c → l[i]? = some x → l[par c]? = some y → le y x
/-- But for what stands below c. -/
def AlmD (le : α → α → Prop) (l : List α) (c : Nat) : Prop :=
  (∀ i x y, 0 < i → par i ≠ c → l[i]? = some x → l[par i]? = some y → le y x) ∧ ∀ i x y, 0 < c → 0 < i → par i = c → l[i]? = some x → l[par c]? = some y → le y x
def swapL (l : List α) (i j : Nat) (a b : α) : List α := (l.set i b).set j a
theorem swapL_len {l : List α} {i j : Nat} {a b : α} : (swapL l i j a b).length = l.length := by simp [swapL]
theorem swapL_j {l : List α} {i j : Nat} {a b : α} (hj : j < l.length) : (swapL l i j a b)[j]? = some a := by simp [swapL, hj]
theorem swapL_i {l : List α} {i j : Nat} {a b : α} (hi : i < l.length) (hij : i ≠ j) : (swapL l i j a b)[i]? = some b := by rw [swapL, List.getElem?_set_ne (Ne.symm hij)]; simp [hi]
theorem swapL_o {l : List α} {i j k : Nat} {a b : α} (hi : k ≠ i) (hj : k ≠ j) : (swapL l i j a b)[k]? = l[k]? := by simp [swapL, List.getElem?_set_ne (Ne.symm hi), List.getElem?_set_ne (Ne.symm hj)]
theorem swapL_perm {l : List α} {i j : Nat} {a b : α} (hi : l[i]? = some a) (hj : l[j]? = some b) : (swapL l i j a b).Perm l := by
  classical
  rw [List.perm_iff_count]
  intro x
  have hil := (List.getElem?_eq_some_iff.1 hi).1
  have hjl := (List.getElem?_eq_some_iff.1 hj).1
  unfold swapL
  by_cases hij : i = j
  · subst hij
    have : a = b := Option.some.inj (hi.symm.trans hj)
    subst this
    have e1 : l.set i a = l := by
      apply List.ext_getElem?
      intro k
      rw [List.getElem?_set]
      split
      · rename_i h; subst h; simp [hi]
      · rfl
    rw [e1, e1]
  · have hb : (l.set i b)[j]? = some b := by rw [List.getElem?_set_ne hij]; exact hj
    rw [List.count_set (by simpa using hjl), List.count_set hil]
    have e1 : (l.set i b)[j]'(by simpa using hjl) = b := (List.getElem?_eq_some_iff.1 hb).2
    have e2 : l[i] = a := (List.getElem?_eq_some_iff.1 hi).2
    rw [e1, e2]
    have hca : 0 < l.count a := List.count_pos_iff.2 (List.mem_of_getElem? hi)
    have hcb : 0 < l.count b := List.count_pos_iff.2 (List.mem_of_getElem? hj)
    by_cases h1 : a = x <;> by_cases h2 : b = x <;> simp_all <;> omega
theorem par_lt {i : Nat} (h : 0 < i) : par i < i := by unfold par; omega
variable (tot : ∀ x y, le x y ∨ le y x) (tr : ∀ x y z, le x y → le y z → le x z)
include tr
theorem HeapL.almD {l : List α} (h : HeapL le l) (c : Nat) : AlmD le l c := by
  refine ⟨fun i x y hi _ => h i x y hi, fun i x y hc hi hp hx hy => ?_⟩
  have hil := (List.getElem?_eq_some_iff.1 hx).1
  have hcl : c < l.length := by have := par_lt hi; omega
  exact tr _ _ _ (h c l[c] y hc (List.getElem?_eq_getElem hcl) hy) (h i x l[c] hi hx (by rw [hp]; exact List.getElem?_eq_getElem hcl))
omit tr
theorem AlmU.alm {l : List α} {c : Nat} (h : AlmU le l c) : Alm le l c := ⟨fun i x y hi hc _ => h.1 i x y hi hc, h.2⟩
include tot tr in
/-- One step up. -/
theorem Alm.up {l : List α} {c : Nat} (h : Alm le l c) {x y : α} (hc : 0 < c) (hx : l[c]? = some x) (hy : l[par c]? = some y) (hlt : ¬ le y x) : AlmU le (swapL l (par c) c y x) (par c) := by
  have hcl := (List.getElem?_eq_some_iff.1 hx).1
  have hpc := par_lt hc
  have hpl : par c < l.length := by omega
  have hle : le x y := (tot x y).resolve_right hlt
  have e1 : (swapL l (par c) c y x)[c]? = some y := swapL_j hcl
  have e2 : (swapL l (par c) c y x)[par c]? = some x := swapL_i hpl (by omega)
  refine ⟨fun i u v hi hip hu hv => ?_, fun i u v hp hi hpi hu hv => ?_⟩
  · by_cases hic : i = c
    · subst hic
      rw [e1] at hu; rw [e2] at hv; cases hu; cases hv; exact hle
    · rw [swapL_o hip hic] at hu
      by_cases h1 : par i = c
      · rw [h1, e1] at hv; cases hv
        exact h.2 i u _ hc hi h1 hu hy
      · by_cases h2 : par i = par c
        · rw [h2, e2] at hv; cases hv
          exact tr _ _ _ hle (h.1 i u y hi hic (by omega) hu (by rw [h2]; exact hy))
        · rw [swapL_o h2 h1] at hv
          exact h.1 i u v hi hic h1 hu hv
  · have hq := par_lt hp
    rw [swapL_o (by omega) (by omega)] at hv
    have hqp : le v y := h.1 (par c) y v hp (by omega) (by omega) hy hv
    by_cases hic : i = c
    · subst hic; rw [e1] at hu; cases hu; exact hqp
    · rw [swapL_o (by have := par_lt hi; omega) hic] at hu
      exact tr _ _ _ hqp (h.1 i u y hi hic (by omega) hu (by rw [hpi]; exact hy))
theorem AlmU.heap {l : List α} {c : Nat} (h : AlmU le l c) (hc : ∀ x y, 0 < c → l[c]? = some x → l[par c]? = some y → le y x) : HeapL le l := fun i x y hi hx hy => by
  by_cases hic : i = c
  · subst hic; exact hc x y hi hx hy
  · exact h.1 i x y hi hic hx hy
theorem Alm.almD {l : List α} {c : Nat} (h : Alm le l c) (hc : ∀ x y, 0 < c → l[c]? = some x → l[par c]? = some y → le y x) : AlmD le l c :=
  ⟨fun i x y hi hp hx hy => by
    by_cases hic : i = c
    · subst hic; exact hc x y hi hx hy
    · exact h.1 i x y hi hic hp hx hy, h.2⟩
/-- One step down: m is the least child of c. -/
theorem AlmD.down {l : List α} {c m : Nat} (h : AlmD le l c) {x y : α} (hm : 0 < m) (hp : par m = c) (hx : l[c]? = some x) (hy : l[m]? = some y) (hle : le y x) (hleast : ∀ i u, 0 < i → par i = c → l[i]? = some u → le y u) :
    AlmD le (swapL l c m x y) m := by
  have hml := (List.getElem?_eq_some_iff.1 hy).1
  have hcm : c < m := by have := par_lt hm; omega
  have hcl : c < l.length := by omega
  have e1 : (swapL l c m x y)[m]? = some x := swapL_j hml
  have e2 : (swapL l c m x y)[c]? = some y := swapL_i hcl (by omega)
  refine ⟨fun i u v hi hpi hu hv => ?_, fun i u v _ hi hpi hu hv => ?_⟩
  · by_cases hic : i = c
    · subst hic
      rw [e2] at hu; cases hu
      have := par_lt hi
      rw [swapL_o (by omega) (by omega)] at hv
      exact h.2 m y v hi hm hp hy hv
    · by_cases him : i = m
      · subst him
        rw [e1] at hu; cases hu
        rw [hp, e2] at hv; cases hv
        exact hle
      · rw [swapL_o hic him] at hu
        by_cases h1 : par i = c
        · rw [h1, e2] at hv; cases hv
          exact hleast i u hi h1 hu
        · rw [swapL_o h1 hpi] at hv
          exact h.1 i u v hi h1 hu hv
  · rw [hp, e2] at hv; cases hv
    have := par_lt hi
    rw [swapL_o (by omega) (by omega)] at hu
    exact h.1 i u y hi (by omega) hu (by rw [hpi]; exact hy)
theorem AlmD.heap {l : List α} {c : Nat} (h : AlmD le l c) (hc : ∀ i x y, 0 < i → par i = c → l[i]? = some x → l[c]? = some y → le y x) : HeapL le l := fun i x y hi hx hy => by
  by_cases hic : par i = c
  · exact hc i x y hi hic hx (by rw [← hic]; exact hy)
  · exact h.1 i x y hi hic hx hy
include tr in
/-- The first is the least. -/
theorem HeapL.least {l : List α} (h : HeapL le l) (rf : ∀ x, le x x) {r : α} (hr : l[0]? = some r) : ∀ (i : Nat) (x : α), l[i]? = some x → le r x := by
  intro i
  induction i using Nat.strongRecOn with
  | _ i ih =>
    intro x hx
    by_cases hi : i = 0
    · subst hi; rw [hr] at hx; cases hx; exact rf r
    · have hp := par_lt (i := i) (by omega)
      have hil := (List.getElem?_eq_some_iff.1 hx).1
      have hpl : par i < l.length := by omega
      exact tr _ _ _ (ih (par i) hp l[par i] (List.getElem?_eq_getElem hpl)) (h i x l[par i] (by omega) hx (List.getElem?_eq_getElem hpl))
end
end Go.Proofs.Ytcagnabglppenaa.Hl
