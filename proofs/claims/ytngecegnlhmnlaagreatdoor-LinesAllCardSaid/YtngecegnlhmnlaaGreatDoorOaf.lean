/- The closed facts of LinesAll's row, one by one. -/
import Derived.Test.YtngecegnlhmnlaaGreatDoorRows
import Derived.Test.YtngecegnlhmnlaaGreatDoorProg
import Derived.JoinedOf
import Derived.JoinedCond
namespace Go.Proofs.YtngecegnlhmnlaaGreatDoor.linesAll
open Go
theorem andI {a b : Bool} (h : a = true) (k : b = true) : (a && b) = true := by rw [h, k]; rfl
theorem fact0 : (Rows.linesAllRow.wf (OpenSpec.ofChange Rows.linesAllSpec)) = true := by kernel_rfl
theorem fact1 : (laidOutB Tryz.pinned.checked.prog) = true := by kernel_rfl
theorem fact2 : (mapsRowed Tryz.pinned.checked.prog) = true := by kernel_rfl
theorem fact3 : (Tryz.f5.params.all (Tryz.pinned.checked.prog.readableRec ·)) = true := by kernel_rfl
theorem fact4 : (namedTie Tryz.pinned.checked.prog Rows.linesAllRow.named Rows.linesAllSpec.vars) = true := by kernel_rfl
theorem fact5 : ((Rows.linesAllRow.stops == [])) = true := by kernel_rfl
theorem fact6 : ((Tryz.pinned.checked.prog.stops == [])) = true := by kernel_rfl
theorem fact7 : ((Rows.linesAllRow.knobs == [])) = true := by kernel_rfl
theorem fact8 : ((Tryz.pinned.checked.prog.stopKnobs == [])) = true := by kernel_rfl
theorem fact9 : ((Rows.linesAllRow.inPlace == Tryz.pinned.checked.prog.inPlace 5)) = true := by kernel_rfl
theorem fact10 : ((Rows.linesAllRow.unfollowed == Tryz.pinned.checked.prog.unfollowed 5)) = true := by kernel_rfl
theorem fact11 : ((Rows.linesAllRow.recurses == Tryz.pinned.checked.prog.recurses 5)) = true := by kernel_rfl
theorem fact12 : ((Rows.linesAllRow.named == Tryz.pinned.checked.prog.varsNamed 5)) = true := by kernel_rfl
theorem fact13 : ((Rows.linesAllRow.maps == (Tryz.f5.params.toList ++ Rows.linesAllSpec.plain.varTypes Tryz.pinned.checked.prog).any (Tryz.pinned.checked.prog.mapsRec ·))) = true := by kernel_rfl
theorem fact14 : ((Rows.linesAllRow.ifaces == (Tryz.f5.params.toList ++ Rows.linesAllSpec.plain.varTypes Tryz.pinned.checked.prog).any (Tryz.pinned.checked.prog.ifacesRec ·))) = true := by kernel_rfl
theorem fact15 : ((Rows.linesAllRow.mapsOut == Tryz.pinned.checked.prog.mapsAmong Tryz.f5.resultTypes.toList)) = true := by kernel_rfl
theorem fact16 : ((Rows.linesAllRow.loops == (Tryz.f5.params.toList ++ Rows.linesAllSpec.plain.varTypes Tryz.pinned.checked.prog).any (Tryz.pinned.checked.prog.loopsFrom ·))) = true := by kernel_rfl
theorem fact17 : ((Rows.linesAllRow.wideKeys == (Tryz.f5.params.toList ++ Rows.linesAllSpec.plain.varTypes Tryz.pinned.checked.prog ++ Tryz.f5.resultTypes.toList).any (Tryz.pinned.checked.prog.wideKeysFrom ·))) = true := by kernel_rfl
theorem fact18 : (Rows.linesAllSpec.vars.all (Tryz.pinned.checked.prog.varReadable ·)) = true := by kernel_rfl
theorem fact19 : (Tryz.f5.resultTypes.all (fun t => Tryz.pinned.checked.prog.readableRec t && decide (t < Tryz.pinned.checked.prog.types.size))) = true := by kernel_rfl
theorem fact20 : ((Rows.linesAllRow.ifacesOut == Tryz.f5.resultTypes.toList.any (Tryz.pinned.checked.prog.ifacesRec ·))) = true := by kernel_rfl
theorem fact21 : ((Rows.linesAllRow.loopsOut == Tryz.f5.resultTypes.toList.any (Tryz.pinned.checked.prog.loopsFrom ·))) = true := by kernel_rfl
theorem fact22 : ((Rows.linesAllRow.plainKeys == Tryz.pinned.checked.prog.plainKeys)) = true := by kernel_rfl
theorem fact23 : (Rows.linesAllRow.shortTexts.isNone) = true := by kernel_rfl
theorem fact24 : (Tryz.pinned.checked.prog.stopsHeard) = true := by kernel_rfl
theorem fact25 : (Tryz.pinned.checked.prog.mayEnter) = true := by kernel_rfl
theorem fact26 : ((Rows.linesAllRow.lifted == Tryz.pinned.checked.prog.liftsFinal)) = true := by kernel_rfl
theorem fact27 : ((Tryz.pinned.checked.prog.make == some Rows.linesAllRow.make)) = true := by kernel_rfl
theorem fact28 : ((Rows.linesAllRow.kinds == (if Rows.linesAllRow.domain.isEmpty then [] else Tryz.f5.params.toList.map fun t => match Tryz.pinned.checked.prog.underlying t with | some (.int k) => some k | _ => none))) = true := by kernel_rfl
theorem fact29 : ((Rows.linesAllRow.pinned == Rows.linesAllRow.pinnedBy)) = true := by kernel_rfl
theorem fact30 : ((Rows.linesAllRow.veiled == (Tryz.f5.params.toList ++ Rows.linesAllSpec.plain.varTypes Tryz.pinned.checked.prog ++ Tryz.f5.resultTypes.toList).any (Tryz.pinned.checked.prog.veiledRec ·))) = true := by kernel_rfl
theorem fact31 : (Rows.linesAllRow.veiledFits Tryz.pinned.checked.prog Tryz.f5.params.toList (Tryz.f5.params.toList ++ Rows.linesAllSpec.plain.varTypes Tryz.pinned.checked.prog ++ Tryz.f5.resultTypes.toList)) = true := by kernel_rfl
set_option maxRecDepth 100000 in
theorem closed : joinedFacts Tryz.pinned.checked.prog 5 Tryz.f5 Rows.linesAllSpec Rows.linesAllRow = true := by
  unfold joinedFacts
  refine andI ?_ fact31
  refine andI ?_ fact30
  refine andI ?_ fact29
  refine andI ?_ fact28
  refine andI ?_ fact27
  refine andI ?_ fact26
  refine andI ?_ fact25
  refine andI ?_ fact24
  refine andI ?_ fact23
  refine andI ?_ fact22
  refine andI ?_ fact21
  refine andI ?_ fact20
  refine andI ?_ fact19
  refine andI ?_ fact18
  refine andI ?_ fact17
  refine andI ?_ fact16
  refine andI ?_ fact15
  refine andI ?_ fact14
  refine andI ?_ fact13
  refine andI ?_ fact12
  refine andI ?_ fact11
  refine andI ?_ fact10
  refine andI ?_ fact9
  refine andI ?_ fact8
  refine andI ?_ fact7
  refine andI ?_ fact6
  refine andI ?_ fact5
  refine andI ?_ fact4
  refine andI ?_ fact3
  refine andI ?_ fact2
  refine andI ?_ fact1
  exact fact0
end Go.Proofs.YtngecegnlhmnlaaGreatDoor.linesAll

