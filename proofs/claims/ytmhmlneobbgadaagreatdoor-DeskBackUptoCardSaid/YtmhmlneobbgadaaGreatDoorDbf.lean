/- The closed facts of DeskBackUpto's row, one by one. -/
import Derived.Test.YtmhmlneobbgadaaGreatDoorRows
import Derived.Test.YtmhmlneobbgadaaGreatDoorProg
import Derived.Test.YtmhmlneobbgadaaGreatDoorDl
import Derived.JoinedOf
import Derived.JoinedCond
namespace Go.Proofs.YtmhmlneobbgadaaGreatDoor.deskBackUpto
open Go
theorem andI {a b : Bool} (h : a = true) (k : b = true) : (a && b) = true := by rw [h, k]; rfl
theorem fact0 : (Rows.deskBackUptoRow.wf (OpenSpec.ofChange (Rows.OpenSpec.upto Rows.deskBackSpec).bare)) = true := by kernel_rfl
theorem fact1 : (laidOutB Tryz.pinned.checked.prog) = true := Ev.laidD
theorem fact2 : (mapsRowed Tryz.pinned.checked.prog) = true := by kernel_rfl
theorem fact3 : (Tryz.f5.params.all (Tryz.pinned.checked.prog.readableRec ·)) = true := by kernel_rfl
theorem fact4 : (namedTie Tryz.pinned.checked.prog Rows.deskBackUptoRow.named (Rows.OpenSpec.upto Rows.deskBackSpec).bare.vars) = true := by kernel_rfl
theorem fact5 : ((Rows.deskBackUptoRow.stops == [])) = true := by kernel_rfl
theorem fact6 : ((Tryz.pinned.checked.prog.stops == [])) = true := by kernel_rfl
theorem fact7 : ((Rows.deskBackUptoRow.knobs == [])) = true := by kernel_rfl
theorem fact8 : ((Tryz.pinned.checked.prog.stopKnobs == [])) = true := by kernel_rfl
theorem fact9 : ((Rows.deskBackUptoRow.inPlace == Tryz.pinned.checked.prog.inPlace 5)) = true := by kernel_rfl
theorem fact10 : ((Rows.deskBackUptoRow.unfollowed == Tryz.pinned.checked.prog.unfollowed 5)) = true := by kernel_rfl
theorem fact11 : ((Rows.deskBackUptoRow.recurses == Tryz.pinned.checked.prog.recurses 5)) = true := by kernel_rfl
theorem fact12 : ((Rows.deskBackUptoRow.named == Tryz.pinned.checked.prog.varsNamed 5)) = true := by kernel_rfl
theorem fact13 : ((Rows.deskBackUptoRow.maps == (Tryz.f5.params.toList ++ (Rows.OpenSpec.upto Rows.deskBackSpec).bare.plain.varTypes Tryz.pinned.checked.prog).any (Tryz.pinned.checked.prog.mapsRec ·))) = true := by kernel_rfl
theorem fact14 : ((Rows.deskBackUptoRow.ifaces == (Tryz.f5.params.toList ++ (Rows.OpenSpec.upto Rows.deskBackSpec).bare.plain.varTypes Tryz.pinned.checked.prog).any (Tryz.pinned.checked.prog.ifacesRec ·))) = true := by kernel_rfl
theorem fact15 : ((Rows.deskBackUptoRow.mapsOut == Tryz.pinned.checked.prog.mapsAmong Tryz.f5.resultTypes.toList)) = true := by kernel_rfl
theorem fact16 : ((Rows.deskBackUptoRow.loops == (Tryz.f5.params.toList ++ (Rows.OpenSpec.upto Rows.deskBackSpec).bare.plain.varTypes Tryz.pinned.checked.prog).any (Tryz.pinned.checked.prog.loopsFrom ·))) = true := by kernel_rfl
theorem fact17 : ((Rows.deskBackUptoRow.wideKeys == (Tryz.f5.params.toList ++ (Rows.OpenSpec.upto Rows.deskBackSpec).bare.plain.varTypes Tryz.pinned.checked.prog ++ Tryz.f5.resultTypes.toList).any (Tryz.pinned.checked.prog.wideKeysFrom ·))) = true := by kernel_rfl
theorem fact18 : ((Rows.OpenSpec.upto Rows.deskBackSpec).bare.vars.all (Tryz.pinned.checked.prog.varReadable ·)) = true := by kernel_rfl
theorem fact19 : (Tryz.f5.resultTypes.all (fun t => Tryz.pinned.checked.prog.readableRec t && decide (t < Tryz.pinned.checked.prog.types.size))) = true := by kernel_rfl
theorem fact20 : ((Rows.deskBackUptoRow.ifacesOut == Tryz.f5.resultTypes.toList.any (Tryz.pinned.checked.prog.ifacesRec ·))) = true := by kernel_rfl
theorem fact21 : ((Rows.deskBackUptoRow.loopsOut == Tryz.f5.resultTypes.toList.any (Tryz.pinned.checked.prog.loopsFrom ·))) = true := by kernel_rfl
theorem fact22 : ((Rows.deskBackUptoRow.plainKeys == Tryz.pinned.checked.prog.plainKeys)) = true := by kernel_rfl
theorem fact23 : (Rows.deskBackUptoRow.shortTexts.isNone) = true := by kernel_rfl
theorem fact24 : (Tryz.pinned.checked.prog.stopsHeard) = true := by kernel_rfl
theorem fact25 : (Tryz.pinned.checked.prog.mayEnter) = true := by kernel_rfl
theorem fact26 : ((Rows.deskBackUptoRow.lifted == Tryz.pinned.checked.prog.liftsFinal)) = true := by kernel_rfl
theorem fact27 : ((Tryz.pinned.checked.prog.make == some Rows.deskBackUptoRow.make)) = true := by kernel_rfl
theorem fact28 : ((Rows.deskBackUptoRow.kinds == (if Rows.deskBackUptoRow.domain.isEmpty then [] else Tryz.f5.params.toList.map fun t => match Tryz.pinned.checked.prog.underlying t with | some (.int k) => some k | _ => none))) = true := by kernel_rfl
theorem fact29 : ((Rows.deskBackUptoRow.pinned == Rows.deskBackUptoRow.pinnedBy)) = true := by kernel_rfl
theorem fact30 : ((Rows.deskBackUptoRow.veiled == (Tryz.f5.params.toList ++ (Rows.OpenSpec.upto Rows.deskBackSpec).bare.plain.varTypes Tryz.pinned.checked.prog ++ Tryz.f5.resultTypes.toList).any (Tryz.pinned.checked.prog.veiledRec ·))) = true := by kernel_rfl
theorem fact31 : (Rows.deskBackUptoRow.veiledFits Tryz.pinned.checked.prog Tryz.f5.params.toList (Tryz.f5.params.toList ++ (Rows.OpenSpec.upto Rows.deskBackSpec).bare.plain.varTypes Tryz.pinned.checked.prog ++ Tryz.f5.resultTypes.toList)) = true := by kernel_rfl
set_option maxRecDepth 100000 in
theorem closed : joinedFacts Tryz.pinned.checked.prog 5 Tryz.f5 (Rows.OpenSpec.upto Rows.deskBackSpec).bare Rows.deskBackUptoRow = true := by
  unfold joinedFacts
  refine andI ?_ fact31
  refine andI ?_ fact30
  refine andI ?_ fact29
  refine andI ?_ fact28
  refine andI ?_ fact27
  refine andI ?_ fact26
  refine andI ?_ fact25
  refine andI ?_ fact24
  refine andI ?_ fact23
  refine andI ?_ fact22
  refine andI ?_ fact21
  refine andI ?_ fact20
  refine andI ?_ fact19
  refine andI ?_ fact18
  refine andI ?_ fact17
  refine andI ?_ fact16
  refine andI ?_ fact15
  refine andI ?_ fact14
  refine andI ?_ fact13
  refine andI ?_ fact12
  refine andI ?_ fact11
  refine andI ?_ fact10
  refine andI ?_ fact9
  refine andI ?_ fact8
  refine andI ?_ fact7
  refine andI ?_ fact6
  refine andI ?_ fact5
  refine andI ?_ fact4
  refine andI ?_ fact3
  refine andI ?_ fact2
  refine andI ?_ fact1
  exact fact0
end Go.Proofs.YtmhmlneobbgadaaGreatDoor.deskBackUpto

