/- Arguments that are structs or arrays by value: what they read as. -/
import Derived.Test.YtpjophfcbaoiaaaDoorGr
namespace Go.Vc
open Go Go.RowKit
theorem open_agg {H α : Type} {enc : TypeId × Value → H} {P : Program} {w : World} {base : Nat} {spare : Nat → Bool} {held : Bool} {r : Reach} {b0 : Nat} {en : α → List Value} {wf : α → Prop} {t : TypeId} {s : List Lf} {d : DataW H} {ps : List MemPlace} {v : Value}
    (ht : aggSize P t ≠ none) (hv : Value.okWide P w r b0 t v) (hs : shp P 20 t = some s) (dec : ∀ cs, Typed s cs → ∃ x, cs = en x ∧ wf x) (h : DataW.Trod enc P w base spare held t v d ps) :
    ∃ x, v = .agg (en x).toArray ∧ wf x := by
  unfold Value.okWide at hv
  unfold aggSize at ht
  cases hu : P.underlying t with
  | none => rw [hu] at ht; exact absurd rfl ht
  | some u =>
    rw [hu] at hv ht
    cases u <;> first | exact absurd rfl ht | skip
    all_goals
      obtain ⟨cs, rfl, _⟩ := hv
      obtain ⟨fuel, h⟩ := h
      obtain ⟨x, hx, hw⟩ := dec _ (typed_of 20 t s hs fuel _ _ h)
      refine ⟨x, ?_, hw⟩
      have : cs.toList = en x := hx
      rw [← this]
end Go.Vc
namespace Go.Proofs.YtpjophfcbaoiaaaDoor.Si
open Go Go.RowKit Go.Vc Go.Proofs.YtpjophfcbaoiaaaDoor Go.Proofs.YtpjophfcbaoiaaaDoor.Fs Go.Proofs.YtpjophfcbaoiaaaDoor.Fo
theorem lf_nat {k : IntKind} {v : Value} {hi : Int} (hw : ∀ n : Int, (Lit.int k n).wf = true ↔ 0 ≤ n ∧ n ≤ hi) (h : Lf.ok (.int k) v) : ∃ n : Nat, v = .int k (n : Int) ∧ (n : Int) ≤ hi := by
  obtain ⟨n, rfl, hn⟩ := h
  have := (hw n).1 hn
  exact ⟨n.toNat, by rw [Int.toNat_of_nonneg this.1], by rw [Int.toNat_of_nonneg this.1]; exact this.2⟩
theorem dec_wide (cs : List Value) (h : Typed [.int .u64, .int .u64] cs) : ∃ x : Nat × Nat, cs = enW x ∧ x.1 < 18446744073709551616 ∧ x.2 < 18446744073709551616 := by
  obtain ⟨v, r, rfl, h1, h⟩ := h.cons_inv
  obtain ⟨v', r', rfl, h2, h⟩ := h.cons_inv
  obtain rfl := h.nil_inv
  obtain ⟨a, rfl, ha⟩ := lf_nat (fun n => wf_u64) h1
  obtain ⟨b, rfl, hb⟩ := lf_nat (fun n => wf_u64) h2
  exact ⟨(a, b), rfl, by show a < _; omega, by show b < _; omega⟩
theorem dec_groups (cs : List Value) (h : Typed lfG cs) : ∃ g : List Nat, cs = enG g ∧ g.length = 8 ∧ ∀ n ∈ g, n < 65536 := by
  have gen : ∀ (m : Nat) (cs : List Value), Typed (List.replicate m (.int .u16)) cs → ∃ g : List Nat, cs = enG g ∧ g.length = m ∧ ∀ n ∈ g, n < 65536 := by
    intro m
    induction m with
    | zero => intro cs h; obtain rfl := Typed.nil_inv h; exact ⟨[], rfl, rfl, fun n hn => by cases hn⟩
    | succ m ih =>
      intro cs h
      rw [List.replicate_succ] at h
      obtain ⟨v, r, rfl, h1, h2⟩ := h.cons_inv
      obtain ⟨a, rfl, ha⟩ := lf_nat (fun n => wf_u16) h1
      obtain ⟨g, rfl, hl, hb⟩ := ih r h2
      refine ⟨a :: g, rfl, by rw [List.length_cons, hl], fun n hn => ?_⟩
      rcases List.mem_cons.1 hn with rfl | hn
      · omega
      · exact hb n hn
  exact gen 8 cs h
end Go.Proofs.YtpjophfcbaoiaaaDoor.Si
