/- The closed facts of DeskLinesUpto's card, one by one. -/
import Derived.Test.YtmhmlneobbgadaaGreatDoorRows
import Derived.Test.YtmhmlneobbgadaaGreatDoorCards
import Derived.Test.YtmhmlneobbgadaaGreatDoorProg
import Derived.SevenTiedAt
namespace Go.Proofs.YtmhmlneobbgadaaGreatDoor.deskLinesUpto
open Go
theorem cardW : Rows.deskLinesUptoRow.wfByText (Rows.OpenSpec.upto Rows.deskLinesSpec) = true := by kernel_rfl
theorem cardM : Tryz.pinned.checked.prog.mainIs = some (Rows.deskLinesUptoCard.stood.harness.1, Rows.deskLinesUptoCard.stood.harness.2.toList) := by kernel_rfl
theorem cardL : Rows.deskLinesUptoCard.stood.looks = Tryz.pinned.checked.prog.looks [] := by kernel_rfl
theorem no_go : Tryz.prog.funcs.any Func.goes = false := by kernel_rfl
theorem goes_no {P : Program} (h : P.funcs.any Func.goes = false) (f : FuncId) : P.goes f = false := by
  unfold Program.goes
  rw [h, Bool.and_false, Bool.or_false]
  refine List.any_eq_false.2 fun g _ => ?_
  cases hg : P.funcs[g]? with
  | none => simp
  | some fn =>
    have hm := Array.mem_of_getElem? hg
    have := Array.any_eq_false'.1 h fn hm
    simpa using this
theorem goesBy_no {P : Program} (h : P.funcs.any Func.goes = false) (c : OpenClaim) : c.goesBy P = false := by
  unfold OpenClaim.goesBy Program.goesAt Program.goesFrom
  have e : P.goes = fun _ => false := funext fun f => goes_no h f
  rw [e]
  have e1 : ∀ o : Option FuncId, o.any (fun _ => false) = false := fun o => by cases o <;> rfl
  rw [e1, Bool.false_or]
  split
  · rfl
  · simp
theorem cardG : false = Rows.deskLinesUptoRow.goesBy Tryz.pinned.checked.prog := (goesBy_no (P := Tryz.pinned.checked.prog) no_go _).symm
end Go.Proofs.YtmhmlneobbgadaaGreatDoor.deskLinesUpto
