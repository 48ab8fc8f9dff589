/- Texts of IPv4 addresses, plainly: parts at points; octets. -/
import Derived.Test.YtpjophfcbaoiaaaDoorFc
import Derived.Lib.SplitLaws
import Derived.Lib.IndexLaws
namespace Go.Proofs.YtpjophfcbaoiaaaDoor.Fo
open Go Go.RowKit Go.Vc Go.Proofs.YtpjophfcbaoiaaaDoor.Fs

/-- The parts between the bytes c. -/
def spl (c : UInt8) : List UInt8 → List (List UInt8)
  | [] => [[]]
  | b :: l => if b = c then [] :: spl c l else match spl c l with | x :: r => (b :: x) :: r | [] => [[b]]
theorem spl_ne (c : UInt8) : ∀ l, spl c l ≠ []
  | [] => by simp [spl]
  | b :: l => by
    unfold spl
    split
    · simp
    · split <;> simp
theorem spl_hit (c : UInt8) : ∀ (x r : List UInt8), c ∉ x → spl c (x ++ c :: r) = x :: spl c r
  | [], r, _ => by simp [spl]
  | b :: x, r, h => by
    have hb : b ≠ c := fun e => h (e ▸ List.mem_cons_self)
    have ih := spl_hit c x r fun hx => h (List.mem_cons_of_mem _ hx)
    rw [List.cons_append, spl, if_neg hb, ih]
theorem spl_miss (c : UInt8) : ∀ (x : List UInt8), c ∉ x → spl c x = [x]
  | [], _ => rfl
  | b :: x, h => by
    have hb : b ≠ c := fun e => h (e ▸ List.mem_cons_self)
    rw [spl, if_neg hb, spl_miss c x fun hx => h (List.mem_cons_of_mem _ hx)]
/-- Joined again. -/
def jn (c : UInt8) : List (List UInt8) → List UInt8
  | [] => []
  | [x] => x
  | x :: r => x ++ c :: jn c r
theorem jn_cons (c : UInt8) (x : List UInt8) {r : List (List UInt8)} (h : r ≠ []) : jn c (x :: r) = x ++ c :: jn c r := by
  cases r with
  | nil => exact absurd rfl h
  | cons y r => rfl
theorem jn_spl (c : UInt8) : ∀ l, jn c (spl c l) = l
  | [] => rfl
  | b :: l => by
    have ih := jn_spl c l
    unfold spl
    split
    · rename_i hb
      rw [jn_cons c [] (spl_ne c l), ih, hb]; rfl
    · cases hs : spl c l with
      | nil => exact absurd hs (spl_ne c l)
      | cons x r =>
        rw [hs] at ih
        dsimp only
        cases r with
        | nil => rw [jn] at ih ⊢; rw [ih]
        | cons y r => rw [jn_cons c _ (by simp)] at ih ⊢; rw [List.cons_append, ih]
theorem jn_join (c : UInt8) : ∀ xs : List (List UInt8), Lib.join xs [c] = jn c xs
  | [] => rfl
  | [x] => by simp [Lib.join, jn, List.intercalate]
  | x :: y :: r => by
    have ih := jn_join c (y :: r)
    rw [jn_cons c x (by simp), ← ih]
    simp [Lib.join, List.intercalate]
theorem splitK_spl (c : UInt8) : ∀ (k : Nat) (l : List UInt8), l.count c = k → Lib.splitK [c] 0 k l = spl c l
  | 0, l, h => by
    have hn : c ∉ l := List.count_eq_zero.1 h
    rw [spl_miss c l hn]; rfl
  | k + 1, l, h => by
    have hm : c ∈ l := List.count_pos_iff.1 (by omega)
    have hi : Lib.index l [c] ≠ -1 := fun e => by
      rw [Lib.index_one] at e
      obtain ⟨j, hj⟩ := List.getElem?_of_mem hm
      exact Lib.indexByte_none e j hj
    have hge := Lib.index_ge l [c]
    obtain ⟨i, hi'⟩ : ∃ i : Nat, Lib.index l [c] = (i : Int) := ⟨(Lib.index l [c]).toNat, by omega⟩
    have hib := hi'
    rw [Lib.index_one] at hib
    obtain ⟨h1, h2⟩ := Lib.indexByte_some hib
    have hlt := (List.getElem?_eq_some_iff.1 h1).1
    have hl : l = l.take i ++ c :: l.drop (i + 1) := by
      have e := List.getElem?_eq_some_iff.1 h1
      conv => lhs; rw [← List.take_append_drop i l, List.drop_eq_getElem_cons hlt, e.2]
    have hx : c ∉ l.take i := fun hx => by
      obtain ⟨j, hj⟩ := List.getElem?_of_mem hx
      have hji : j < i := by have := (List.getElem?_eq_some_iff.1 hj).1; simp at this; omega
      rw [List.getElem?_take_of_lt hji] at hj
      exact h2 j hji hj
    have hc : (l.drop (i + 1)).count c = k := by
      have := congrArg (List.count c) hl
      rw [h, List.count_append, List.count_eq_zero.2 hx, List.count_cons_self] at this
      omega
    unfold Lib.splitK
    rw [if_neg (by simpa using hi), hi']
    simp only [Int.toNat_natCast, List.length_singleton, Nat.add_zero]
    rw [splitK_spl c k _ hc]
    conv => rhs; rw [hl, spl_hit c _ _ hx]
end Go.Proofs.YtpjophfcbaoiaaaDoor.Fo
