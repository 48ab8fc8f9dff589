/- Hexadecimal digits, and what they count, plainly. -/
import Derived.Test.YtpjophfcbaoiaaaDoorGe
namespace Go.Proofs.YtpjophfcbaoiaaaDoor.Si
open Go Go.RowKit Go.Vc Go.Proofs.YtpjophfcbaoiaaaDoor.Fs Go.Proofs.YtpjophfcbaoiaaaDoor.Fo

/-- Hexadecimal digits. -/
def d16 (n : Nat) : UInt8 := if n < 10 then UInt8.ofNat (48 + n) else UInt8.ofNat (87 + n)
def hx (n : Nat) : List UInt8 := if n < 16 then [d16 n] else if n < 256 then [d16 (n / 16), d16 (n % 16)] else if n < 4096 then [d16 (n / 256), d16 (n / 16 % 16), d16 (n % 16)] else [d16 (n / 4096), d16 (n / 256 % 16), d16 (n / 16 % 16), d16 (n % 16)]
/-- What a digit counts. -/
def hv (c : UInt8) : Option Nat := if 48 ≤ c ∧ c ≤ 57 then some (c.toNat - 48) else if 97 ≤ c ∧ c ≤ 102 then some (c.toNat - 87) else if 65 ≤ c ∧ c ≤ 70 then some (c.toNat - 55) else none
def gv : List UInt8 → Nat → Option Nat
  | [], a => some a
  | c :: r, a => (hv c).bind fun d => gv r ((a * 16 + d) % 65536)
/-- The value of one to four digits. -/
def grp (l : List UInt8) : Option Nat := if 1 ≤ l.length ∧ l.length ≤ 4 then gv l 0 else none
def cap (c : UInt8) : UInt8 := if 97 ≤ c ∧ c ≤ 102 then c - 32 else c
theorem hv_table : ((List.range 16).all fun d => decide (hv (d16 d) = some d) && decide (hv (cap (d16 d)) = some d) && decide (d16 d ≠ 58) && decide (cap (d16 d) ≠ 58)&& decide (d16 d ≠ 46) && decide (cap (d16 d) ≠ 46)) = true := by kernel_rfl
theorem hv_d16 {d : Nat} (h : d < 16) : hv (d16 d) = some d ∧ hv (cap (d16 d)) = some d ∧ d16 d ≠ 58 ∧ cap (d16 d) ≠ 58 ∧ d16 d ≠ 46 ∧ cap (d16 d) ≠ 46 := by
  have := List.all_eq_true.1 hv_table d (List.mem_range.2 h)
  simp only [Bool.and_eq_true, decide_eq_true_eq] at this
  obtain ⟨⟨⟨⟨⟨h1, h2⟩, h3⟩, h4⟩, h5⟩, h6⟩ := this
  exact ⟨h1, h2, h3, h4, h5, h6⟩
theorem grp_gen (t : UInt8 → UInt8) (ht : ∀ d, d < 16 → hv (t (d16 d)) = some d) {n : Nat} (h : n < 65536) : grp ((hx n).map t) = some n := by
  unfold hx
  split
  · rename_i h1
    simp only [List.map_cons, List.map_nil, grp, List.length_cons, List.length_nil, gv, ht n h1, Option.bind_some]
    rw [if_pos (by omega)]; congr 1; omega
  · split
    · simp only [List.map_cons, List.map_nil, grp, List.length_cons, List.length_nil, gv, ht (n / 16) (by omega), ht (n % 16) (by omega), Option.bind_some]
      rw [if_pos (by omega)]; congr 1; omega
    · split
      · simp only [List.map_cons, List.map_nil, grp, List.length_cons, List.length_nil, gv, ht (n / 256) (by omega), ht (n / 16 % 16) (by omega), ht (n % 16) (by omega), Option.bind_some]
        rw [if_pos (by omega)]; congr 1; omega
      · simp only [List.map_cons, List.map_nil, grp, List.length_cons, List.length_nil, gv, ht (n / 4096) (by omega), ht (n / 256 % 16) (by omega), ht (n / 16 % 16) (by omega), ht (n % 16) (by omega), Option.bind_some]
        rw [if_pos (by omega)]; congr 1; omega
theorem grp_hx {n : Nat} (h : n < 65536) : grp (hx n) = some n := by
  have := grp_gen id (fun _ hd => (hv_d16 hd).1) h
  rwa [List.map_id] at this
theorem grp_cap {n : Nat} (h : n < 65536) : grp ((hx n).map cap) = some n := grp_gen cap (fun _ hd => (hv_d16 hd).2.1) h
theorem hx_len (n : Nat) : 1 ≤ (hx n).length ∧ (hx n).length ≤ 4 := by
  unfold hx
  split
  · simp
  · split
    · simp
    · split <;> simp
end Go.Proofs.YtpjophfcbaoiaaaDoor.Si
