/- The heap of numbers: what a claim's arguments read as. -/
import Derived.Test.YtcagnabglppenaaKo
namespace Go.Proofs.Ytcagnabglppenaa.Hp
open Go Go.RowKit Go.Vc Go.Proofs.Ytcagnabglppenaa.Fs Go.Proofs.Ytcagnabglppenaa.Hl Go.Proofs.Ytcagnabglppenaa.Sr

theorem wf_u64 {n : Int} (h : (Lit.int .u64 n).wf = true) : 0 ≤ n ∧ n < 18446744073709551616 := by
  have e1 : IntKind.u64.min = 0 := by kernel_rfl
  have e2 : IntKind.u64.max = 18446744073709551615 := by kernel_rfl
  have h : (decide (IntKind.u64.min ≤ n) && decide (n ≤ IntKind.u64.max)) = true := h
  rw [e1, e2] at h
  simp only [Bool.and_eq_true, decide_eq_true_eq] at h
  omega
theorem dec_item : ∀ (cs : List Value), Typed [.int .i64, .int .u64] cs → ∃ x : Item, cs = encC x ∧ 0 ≤ x.2 ∧ x.2 < 18446744073709551616
  | [], h => h.elim
  | [_], h => h.2.elim
  | _ :: _ :: _ :: _, h => h.2.2.elim
  | [a, b], h => by
    obtain ⟨n, e1, _⟩ := h.1
    obtain ⟨m, e2, hm⟩ := h.2.1
    exact ⟨(n, m), by rw [e1, e2]; rfl, wf_u64 hm⟩
theorem dec_step : ∀ (cs : List Value), Typed [.int .i64, .int .i64, .int .u64] cs → ∃ x : Int × Int × Int, cs = encT x ∧ 0 ≤ x.2.2 ∧ x.2.2 < 18446744073709551616
  | [], h => h.elim
  | [_], h => h.2.elim
  | [_, _], h => h.2.2.elim
  | _ :: _ :: _ :: _ :: _, h => h.2.2.2.elim
  | [a, b, c], h => by
    obtain ⟨n, e1, _⟩ := h.1
    obtain ⟨m, e2, _⟩ := h.2.1
    obtain ⟨o, e3, ho⟩ := h.2.2.1
    exact ⟨(n, m, o), by rw [e1, e2, e3]; rfl, wf_u64 ho⟩
theorem t22 : Try.prog.underlying 22 = some (.slice 29) := by kernel_rfl
end Go.Proofs.Ytcagnabglppenaa.Hp
