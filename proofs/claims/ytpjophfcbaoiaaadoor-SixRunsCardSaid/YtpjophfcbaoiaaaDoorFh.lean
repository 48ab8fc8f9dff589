/- Which texts are addresses, plainly: by parts; byte by byte. -/
import Derived.Test.YtpjophfcbaoiaaaDoorFg
namespace Go.Proofs.YtpjophfcbaoiaaaDoor.Fo
open Go Go.RowKit Go.Vc Go.Proofs.YtpjophfcbaoiaaaDoor.Fs

def octs : List (List UInt8) → Option (List Nat)
  | [] => some []
  | x :: r => (octOf x).bind fun n => (octs r).map fun l => n :: l
theorem octs_app (x : List UInt8) : ∀ l, octs (l ++ [x]) = (octs l).bind fun os => (octOf x).map fun n => os ++ [n]
  | [] => by
    simp only [List.nil_append, octs]
    cases octOf x <;> rfl
  | y :: l => by
    rw [List.cons_append, octs, octs, octs_app x l]
    cases octOf y <;> cases octs l <;> cases octOf x <;> rfl
theorem octs_none {x : List UInt8} : ∀ {l : List (List UInt8)}, x ∈ l → octOf x = none → octs l = none
  | y :: l, h, hx => by
    rcases List.mem_cons.1 h with rfl | h
    · rw [octs, hx]; rfl
    · rw [octs, octs_none h hx]; cases octOf y <;> rfl
theorem octs_len : ∀ {l : List (List UInt8)} {os : List Nat}, octs l = some os → os.length = l.length ∧ ∀ n ∈ os, n < 256
  | [], os, h => by cases h; exact ⟨rfl, fun n hn => by cases hn⟩
  | x :: l, os, h => by
    rw [octs] at h
    cases hx : octOf x with
    | none => rw [hx] at h; cases h
    | some n =>
      cases hl : octs l with
      | none => rw [hx, hl] at h; cases h
      | some os' =>
        rw [hx, hl] at h; cases h
        obtain ⟨h1, h2⟩ := octs_len hl
        refine ⟨by simp [h1], fun m hm => ?_⟩
        rcases List.mem_cons.1 hm with rfl | hm
        · exact (octOf_some.1 hx).1
        · exact h2 m hm
/-- The address of a text, if it is one. -/
def addrOf (l : List UInt8) : Option Nat := if (spl 46 l).length = 4 then (octs (spl 46 l)).map ofB else none
theorem dd_pt {m : Nat} (h : m < 256) : (46 : UInt8) ∉ dd m := by
  have ht : ((List.range 256).all fun m => !(dd m).contains 46) = true := by kernel_rfl
  have := List.all_eq_true.1 ht m (List.mem_range.2 h)
  simpa using this
theorem octOf_dd {m : Nat} (h : m < 256) : octOf (dd m) = some m := octOf_some.2 ⟨h, rfl⟩
theorem spl_text (a : Nat) : spl 46 (text a) = (oct4 a).map dd := by
  unfold text oct4
  simp only [List.map_cons, List.map_nil, jn]
  rw [spl_hit 46 _ _ (dd_pt (by omega)), spl_hit 46 _ _ (dd_pt (by omega)), spl_hit 46 _ _ (dd_pt (by omega)), spl_miss 46 _ (dd_pt (by omega))]
/-- Printed addresses are addresses. -/
theorem addr_text {a : Nat} (h : a < 4294967296) : addrOf (text a) = some a := by
  unfold addrOf
  rw [spl_text, if_pos (by simp [oct4])]
  have : octs ((oct4 a).map dd) = some (oct4 a) := by
    unfold oct4
    simp only [List.map_cons, List.map_nil, octs]
    rw [octOf_dd (by omega), octOf_dd (by omega), octOf_dd (by omega), octOf_dd (by omega)]; rfl
  rw [this, Option.map_some, ofB_oct4 h]
/-- And no other text is. -/
theorem text_addr {l : List UInt8} {a : Nat} (h : addrOf l = some a) : a < 4294967296 ∧ text a = l := by
  unfold addrOf at h
  split at h
  · rename_i h4
    obtain ⟨os, ho, rfl⟩ := Option.map_eq_some_iff.1 h
    obtain ⟨h1, h2⟩ := octs_len ho
    have hj := jn_spl 46 l
    generalize spl 46 l = ps at *
    match ps, os, h4, h1 with
    | [p0, p1, p2, p3], [n0, n1, n2, n3], _, _ =>
      have e : (octOf p0 = some n0 ∧ octOf p1 = some n1) ∧ octOf p2 = some n2 ∧ octOf p3 = some n3 := by
        simp only [octs] at ho
        cases e0 : octOf p0 <;> cases e1 : octOf p1 <;> cases e2 : octOf p2 <;> cases e3 : octOf p3 <;> rw [e0, e1, e2, e3] at ho <;> cases ho
        exact ⟨⟨rfl, rfl⟩, rfl, rfl⟩
      obtain ⟨⟨e0, e1⟩, e2, e3⟩ := e
      obtain ⟨b0, d0⟩ := octOf_some.1 e0; obtain ⟨b1, d1⟩ := octOf_some.1 e1; obtain ⟨b2, d2⟩ := octOf_some.1 e2; obtain ⟨b3, d3⟩ := octOf_some.1 e3
      have hv : ofB [n0, n1, n2, n3] = ((n0 * 256 + n1) * 256 + n2) * 256 + n3 := by simp [ofB]
      refine ⟨by rw [hv]; omega, ?_⟩
      rw [← hj]
      have ho4 : oct4 (ofB [n0, n1, n2, n3]) = [n0, n1, n2, n3] := by
        rw [hv]; unfold oct4
        rw [show (((n0 * 256 + n1) * 256 + n2) * 256 + n3) / 16777216 % 256 = n0 by omega, show (((n0 * 256 + n1) * 256 + n2) * 256 + n3) / 65536 % 256 = n1 by omega, show (((n0 * 256 + n1) * 256 + n2) * 256 + n3) / 256 % 256 = n2 by omega, show (((n0 * 256 + n1) * 256 + n2) * 256 + n3) % 256 = n3 by omega]
      unfold text
      rw [ho4, ← d0, ← d1, ← d2, ← d3]; rfl
  · cases h

/-! ### Byte by byte -/
/-- A part's digits. -/
def pa : List UInt8 → Nat → Nat → Option (Nat × Nat)
  | [], n, lg => some (n, lg)
  | c :: r, n, lg => if c.toNat < 48 ∨ 57 < c.toNat ∨ (0 < lg ∧ n = 0) ∨ 2 < lg then none else if 255 < 10 * n + (c.toNat - 48) then none else pa r (10 * n + (c.toNat - 48)) (lg + 1)
def auto : List UInt8 → Nat → Nat → Nat → Nat → Option Nat
  | [], a, n, p, lg => if p ≠ 3 ∨ lg = 0 then none else some (256 * a + n)
  | c :: r, a, n, p, lg => if c.toNat = 46 then (if lg = 0 then none else auto r (256 * a + n) 0 (p + 1) 0) else
      if c.toNat < 48 ∨ 57 < c.toNat ∨ (0 < lg ∧ n = 0) ∨ 2 < lg ∨ 3 < p then none else if 255 < 10 * n + (c.toNat - 48) then none else auto r a (10 * n + (c.toNat - 48)) p (lg + 1)
theorem c46 {c : UInt8} : c.toNat = 46 ↔ c = 46 := ⟨fun h => UInt8.toNat_inj.1 h, fun h => by subst h; rfl⟩
theorem auto_part (t : List UInt8) (a p : Nat) (hp : p ≤ 3) : ∀ (x : List UInt8) (n lg : Nat), (46 : UInt8) ∉ x → auto (x ++ t) a n p lg = (pa x n lg).bind fun r => auto t a r.1 p r.2
  | [], n, lg, _ => rfl
  | c :: x, n, lg, h => by
    have hc : ¬ c.toNat = 46 := fun e => h (c46.1 e ▸ List.mem_cons_self)
    have ih := fun n lg => auto_part t a p hp x n lg fun hx => h (List.mem_cons_of_mem _ hx)
    rw [List.cons_append, auto, pa, if_neg hc]
    by_cases h1 : c.toNat < 48 ∨ 57 < c.toNat ∨ (0 < lg ∧ n = 0) ∨ 2 < lg
    · rw [if_pos h1, if_pos (by omega)]; rfl
    · rw [if_neg h1, if_neg (by omega)]
      split
      · rfl
      · exact ih _ _
theorem pa_table : ((List.range 256).all fun m => decide (pa (dd m) 0 0 = some (m, (dd m).length))) = true := by kernel_rfl
theorem u8_of {c : UInt8} {k : Nat} (h : c.toNat = k) : UInt8.ofNat k = c := by rw [← h]; exact UInt8.ofNat_toNat
theorem pa_none : ∀ (x : List UInt8), (∀ m, m < 256 → dd m ≠ x) → (pa x 0 0).bind (fun r => if r.2 = 0 then none else some r.1) = none
  | [], _ => rfl
  | [c], no => by
    rw [pa]
    by_cases h1 : c.toNat < 48 ∨ 57 < c.toNat ∨ (0 < 0 ∧ 0 = 0) ∨ 2 < 0
    · rw [if_pos h1]; rfl
    · exfalso
      refine no (c.toNat - 48) (by omega) ?_
      unfold dd
      rw [if_pos (by omega), u8_of (c := c) (by omega)]
  | [c, d], no => by
    rw [pa]
    by_cases h1 : c.toNat < 48 ∨ 57 < c.toNat ∨ (0 < 0 ∧ 0 = 0) ∨ 2 < 0
    · rw [if_pos h1]; rfl
    · rw [if_neg h1, if_neg (by omega), pa]
      by_cases h2 : d.toNat < 48 ∨ 57 < d.toNat ∨ (0 < 0 + 1 ∧ 10 * 0 + (c.toNat - 48) = 0) ∨ 2 < 0 + 1
      · rw [if_pos h2]; rfl
      · exfalso
        refine no (10 * (c.toNat - 48) + (d.toNat - 48)) (by omega) ?_
        unfold dd
        rw [if_neg (by omega), if_pos (by omega), u8_of (c := c) (by omega), u8_of (c := d) (by omega)]
  | [c, d, e], no => by
    rw [pa]
    by_cases h1 : c.toNat < 48 ∨ 57 < c.toNat ∨ (0 < 0 ∧ 0 = 0) ∨ 2 < 0
    · rw [if_pos h1]; rfl
    · rw [if_neg h1, if_neg (by omega), pa]
      by_cases h2 : d.toNat < 48 ∨ 57 < d.toNat ∨ (0 < 0 + 1 ∧ 10 * 0 + (c.toNat - 48) = 0) ∨ 2 < 0 + 1
      · rw [if_pos h2]; rfl
      · rw [if_neg h2, if_neg (by omega), pa]
        by_cases h3 : e.toNat < 48 ∨ 57 < e.toNat ∨ (0 < 0 + 1 + 1 ∧ 10 * (10 * 0 + (c.toNat - 48)) + (d.toNat - 48) = 0) ∨ 2 < 0 + 1 + 1
        · rw [if_pos h3]; rfl
        · rw [if_neg h3]
          split
          · rfl
          · rename_i h4
            exfalso
            refine no (10 * (10 * (c.toNat - 48) + (d.toNat - 48)) + (e.toNat - 48)) (by omega) ?_
            unfold dd
            rw [if_neg (by omega), if_neg (by omega), u8_of (c := c) (by omega), u8_of (c := d) (by omega), u8_of (c := e) (by omega)]
  | c :: d :: e :: f :: r, _ => by
    have four : ∀ (n : Nat), pa (f :: r) n 3 = none := fun n => by rw [pa, if_pos (.inr (.inr (.inr (by decide))))]
    simp only [pa] at four ⊢
    split
    · rfl
    · split
      · rfl
      · split
        · rfl
        · split
          · rfl
          · split
            · rfl
            · split
              · rfl
              · rw [four]; rfl
theorem pa_oct (x : List UInt8) : (pa x 0 0).bind (fun r => if r.2 = 0 then none else some r.1) = octOf x := by
  cases ho : octOf x with
  | some m =>
    obtain ⟨h1, rfl⟩ := octOf_some.1 ho
    have ht := of_decide_eq_true (List.all_eq_true.1 pa_table m (List.mem_range.2 h1))
    have hl : (dd m).length ≠ 0 := by unfold dd; split <;> (try split) <;> simp
    rw [ht, Option.bind_some, if_neg hl]
  | none => exact pa_none x fun m h1 h2 => by rw [octOf_some.2 ⟨h1, h2⟩] at ho; cases ho
theorem octOf_nil : octOf [] = none := by kernel_rfl
theorem auto_hit {x : List UInt8} (hx : (46 : UInt8) ∉ x) (r : List UInt8) (a : Nat) {p : Nat} (hp : p ≤ 3) : auto (x ++ 46 :: r) a 0 p 0 = (octOf x).bind fun m => auto r (256 * a + m) 0 (p + 1) 0 := by
  rw [auto_part _ a p hp x 0 0 hx, ← pa_oct x]
  cases pa x 0 0 with
  | none => rfl
  | some q =>
    simp only [Option.bind_some]
    rw [auto, if_pos (by rfl)]
    split
    · rfl
    · rfl
theorem auto_late {l : List UInt8} (a : Nat) {p : Nat} (hp : 3 < p) : auto l a 0 p 0 = none := by
  cases l with
  | nil => rw [auto, if_pos (.inr rfl)]
  | cons c r =>
    rw [auto]
    split
    · rfl
    · rw [if_pos (by omega)]
theorem auto_last {x : List UInt8} (hx : (46 : UInt8) ∉ x) (a : Nat) {p : Nat} (hp : p ≤ 3) : auto x a 0 p 0 = if p = 3 then (octOf x).map fun m => 256 * a + m else none := by
  have h := auto_part [] a p hp x 0 0 hx
  rw [List.append_nil] at h
  rw [h, ← pa_oct x]
  cases pa x 0 0 with
  | none => simp
  | some q =>
    simp only [Option.bind_some]
    rw [auto]
    by_cases h1 : p = 3 <;> by_cases h2 : q.2 = 0 <;> simp [h1, h2]
end Go.Proofs.YtpjophfcbaoiaaaDoor.Fo
