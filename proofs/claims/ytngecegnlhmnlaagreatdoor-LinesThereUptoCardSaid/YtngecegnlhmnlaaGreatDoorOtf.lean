/- The closed facts of LinesThereUpto's row, one by one. -/
import Derived.Test.YtngecegnlhmnlaaGreatDoorRows
import Derived.Test.YtngecegnlhmnlaaGreatDoorProg
import Derived.JoinedOf
import Derived.JoinedCond
namespace Go.Proofs.YtngecegnlhmnlaaGreatDoor.linesThereUpto
open Go
theorem andI {a b : Bool} (h : a = true) (k : b = true) : (a && b) = true := by rw [h, k]; rfl
theorem fact0 : (Rows.linesThereUptoRow.wf (OpenSpec.ofChange (Rows.OpenSpec.upto Rows.linesThereSpec).bare)) = true := by kernel_rfl
theorem fact1 : (laidOutB Tryz.pinned.checked.prog) = true := by kernel_rfl
theorem fact2 : (mapsRowed Tryz.pinned.checked.prog) = true := by kernel_rfl
theorem fact3 : (Tryz.f7.params.all (Tryz.pinned.checked.prog.readableRec ·)) = true := by kernel_rfl
theorem fact4 : (namedTie Tryz.pinned.checked.prog Rows.linesThereUptoRow.named (Rows.OpenSpec.upto Rows.linesThereSpec).bare.vars) = true := by kernel_rfl
theorem fact5 : ((Rows.linesThereUptoRow.stops == [])) = true := by kernel_rfl
theorem fact6 : ((Tryz.pinned.checked.prog.stops == [])) = true := by kernel_rfl
theorem fact7 : ((Rows.linesThereUptoRow.knobs == [])) = true := by kernel_rfl
theorem fact8 : ((Tryz.pinned.checked.prog.stopKnobs == [])) = true := by kernel_rfl
theorem fact9 : ((Rows.linesThereUptoRow.inPlace == Tryz.pinned.checked.prog.inPlace 7)) = true := by kernel_rfl
theorem fact10 : ((Rows.linesThereUptoRow.unfollowed == Tryz.pinned.checked.prog.unfollowed 7)) = true := by kernel_rfl
theorem fact11 : ((Rows.linesThereUptoRow.recurses == Tryz.pinned.checked.prog.recurses 7)) = true := by kernel_rfl
theorem fact12 : ((Rows.linesThereUptoRow.named == Tryz.pinned.checked.prog.varsNamed 7)) = true := by kernel_rfl
theorem fact13 : ((Rows.linesThereUptoRow.maps == (Tryz.f7.params.toList ++ (Rows.OpenSpec.upto Rows.linesThereSpec).bare.plain.varTypes Tryz.pinned.checked.prog).any (Tryz.pinned.checked.prog.mapsRec ·))) = true := by kernel_rfl
theorem fact14 : ((Rows.linesThereUptoRow.ifaces == (Tryz.f7.params.toList ++ (Rows.OpenSpec.upto Rows.linesThereSpec).bare.plain.varTypes Tryz.pinned.checked.prog).any (Tryz.pinned.checked.prog.ifacesRec ·))) = true := by kernel_rfl
theorem fact15 : ((Rows.linesThereUptoRow.mapsOut == Tryz.pinned.checked.prog.mapsAmong Tryz.f7.resultTypes.toList)) = true := by kernel_rfl
theorem fact16 : ((Rows.linesThereUptoRow.loops == (Tryz.f7.params.toList ++ (Rows.OpenSpec.upto Rows.linesThereSpec).bare.plain.varTypes Tryz.pinned.checked.prog).any (Tryz.pinned.checked.prog.loopsFrom ·))) = true := by kernel_rfl
theorem fact17 : ((Rows.linesThereUptoRow.wideKeys == (Tryz.f7.params.toList ++ (Rows.OpenSpec.upto Rows.linesThereSpec).bare.plain.varTypes Tryz.pinned.checked.prog ++ Tryz.f7.resultTypes.toList).any (Tryz.pinned.checked.prog.wideKeysFrom ·))) = true := by kernel_rfl
theorem fact18 : ((Rows.OpenSpec.upto Rows.linesThereSpec).bare.vars.all (Tryz.pinned.checked.prog.varReadable ·)) = true := by kernel_rfl
theorem fact19 : (Tryz.f7.resultTypes.all (fun t => Tryz.pinned.checked.prog.readableRec t && decide (t < Tryz.pinned.checked.prog.types.size))) = true := by kernel_rfl
theorem fact20 : ((Rows.linesThereUptoRow.ifacesOut == Tryz.f7.resultTypes.toList.any (Tryz.pinned.checked.prog.ifacesRec ·))) = true := by kernel_rfl
theorem fact21 : ((Rows.linesThereUptoRow.loopsOut == Tryz.f7.resultTypes.toList.any (Tryz.pinned.checked.prog.loopsFrom ·))) = true := by kernel_rfl
theorem fact22 : ((Rows.linesThereUptoRow.plainKeys == Tryz.pinned.checked.prog.plainKeys)) = true := by kernel_rfl
theorem fact23 : (Rows.linesThereUptoRow.shortTexts.isNone) = true := by kernel_rfl
theorem fact24 : (Tryz.pinned.checked.prog.stopsHeard) = true := by kernel_rfl
theorem fact25 : (Tryz.pinned.checked.prog.mayEnter) = true := by kernel_rfl
theorem fact26 : ((Rows.linesThereUptoRow.lifted == Tryz.pinned.checked.prog.liftsFinal)) = true := by kernel_rfl
theorem fact27 : ((Tryz.pinned.checked.prog.make == some Rows.linesThereUptoRow.make)) = true := by kernel_rfl
theorem fact28 : ((Rows.linesThereUptoRow.kinds == (if Rows.linesThereUptoRow.domain.isEmpty then [] else Tryz.f7.params.toList.map fun t => match Tryz.pinned.checked.prog.underlying t with | some (.int k) => some k | _ => none))) = true := by kernel_rfl
theorem fact29 : ((Rows.linesThereUptoRow.pinned == Rows.linesThereUptoRow.pinnedBy)) = true := by kernel_rfl
theorem fact30 : ((Rows.linesThereUptoRow.veiled == (Tryz.f7.params.toList ++ (Rows.OpenSpec.upto Rows.linesThereSpec).bare.plain.varTypes Tryz.pinned.checked.prog ++ Tryz.f7.resultTypes.toList).any (Tryz.pinned.checked.prog.veiledRec ·))) = true := by kernel_rfl
theorem fact31 : (Rows.linesThereUptoRow.veiledFits Tryz.pinned.checked.prog Tryz.f7.params.toList (Tryz.f7.params.toList ++ (Rows.OpenSpec.upto Rows.linesThereSpec).bare.plain.varTypes Tryz.pinned.checked.prog ++ Tryz.f7.resultTypes.toList)) = true := by kernel_rfl
set_option maxRecDepth 100000 in
theorem closed : joinedFacts Tryz.pinned.checked.prog 7 Tryz.f7 (Rows.OpenSpec.upto Rows.linesThereSpec).bare Rows.linesThereUptoRow = true := by
  unfold joinedFacts
  refine andI ?_ fact31
  refine andI ?_ fact30
  refine andI ?_ fact29
  refine andI ?_ fact28
  refine andI ?_ fact27
  refine andI ?_ fact26
  refine andI ?_ fact25
  refine andI ?_ fact24
  refine andI ?_ fact23
  refine andI ?_ fact22
  refine andI ?_ fact21
  refine andI ?_ fact20
  refine andI ?_ fact19
  refine andI ?_ fact18
  refine andI ?_ fact17
  refine andI ?_ fact16
  refine andI ?_ fact15
  refine andI ?_ fact14
  refine andI ?_ fact13
  refine andI ?_ fact12
  refine andI ?_ fact11
  refine andI ?_ fact10
  refine andI ?_ fact9
  refine andI ?_ fact8
  refine andI ?_ fact7
  refine andI ?_ fact6
  refine andI ?_ fact5
  refine andI ?_ fact4
  refine andI ?_ fact3
  refine andI ?_ fact2
  refine andI ?_ fact1
  exact fact0
end Go.Proofs.YtngecegnlhmnlaaGreatDoor.linesThereUpto

