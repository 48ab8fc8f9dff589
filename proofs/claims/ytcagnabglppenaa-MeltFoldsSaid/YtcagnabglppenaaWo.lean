/- What a prefix, given by value, reads as. -/
import Derived.Test.YtcagnabglppenaaSw
namespace Go.Vc
open Go Go.RowKit
theorem open_val {H α : Type} {enc : TypeId × Value → H} {P : Program} {w : World} {base : Nat} {spare : Nat → Bool} {held : Bool} {r : Reach} {b0 : Nat} {en : α → List Value} {wf : α → Prop} {t : TypeId} {fs : Array Field} {s : List Lf} {d : DataW H} {ps : List MemPlace} {v : Value}
    (ht : P.underlying t = some (.struct fs)) (hv : Value.okWide P w r b0 t v) (hs : shp P 20 t = some s) (dec : ∀ cs, Typed s cs → ∃ x, cs = en x ∧ wf x) (h : DataW.Trod enc P w base spare held t v d ps) :
    ∃ x, v = .agg (en x).toArray ∧ wf x := by
  unfold Value.okWide at hv
  rw [ht] at hv
  obtain ⟨cs, rfl, _⟩ := hv
  obtain ⟨fuel, h⟩ := h
  obtain ⟨x, hx, hw⟩ := dec _ (typed_of 20 t s hs fuel _ _ h)
  refine ⟨x, ?_, hw⟩
  have : cs.toList = en x := hx
  rw [← this]
end Go.Vc
namespace Go.Proofs.Ytcagnabglppenaa.Sv
open Go Go.RowKit Go.Vc Go.Proofs.Ytcagnabglppenaa.Fs Go.Proofs.Ytcagnabglppenaa.Px Go.Proofs.Ytcagnabglppenaa.Hq
theorem dec_pfx (cs : List Value) (h : Typed lfP cs) : ∃ p : Pfx, cs = encP p ∧ True := by
  obtain ⟨p, r, e, h1⟩ := dec_P (ss := []) (by simpa using h)
  obtain rfl := typed_nil h1
  exact ⟨p, by simpa using e, trivial⟩
end Go.Proofs.Ytcagnabglppenaa.Sv
