/- The closed facts of LinesBackUpto's row, one by one. -/
import Derived.Test.YtngecegnlhmnlaaGreatDoorRows
import Derived.Test.YtngecegnlhmnlaaGreatDoorProg
import Derived.JoinedOf
import Derived.JoinedCond
namespace Go.Proofs.YtngecegnlhmnlaaGreatDoor.linesBackUpto
open Go
theorem andI {a b : Bool} (h : a = true) (k : b = true) : (a && b) = true := by rw [h, k]; rfl
theorem fact0 : (Rows.linesBackUptoRow.wf (OpenSpec.ofChange (Rows.OpenSpec.upto Rows.linesBackSpec).bare)) = true := by kernel_rfl
theorem fact1 : (laidOutB Tryz.pinned.checked.prog) = true := by kernel_rfl
theorem fact2 : (mapsRowed Tryz.pinned.checked.prog) = true := by kernel_rfl
theorem fact3 : (Tryz.f6.params.all (Tryz.pinned.checked.prog.readableRec ·)) = true := by kernel_rfl
theorem fact4 : (namedTie Tryz.pinned.checked.prog Rows.linesBackUptoRow.named (Rows.OpenSpec.upto Rows.linesBackSpec).bare.vars) = true := by kernel_rfl
theorem fact5 : ((Rows.linesBackUptoRow.stops == [])) = true := by kernel_rfl
theorem fact6 : ((Tryz.pinned.checked.prog.stops == [])) = true := by kernel_rfl
theorem fact7 : ((Rows.linesBackUptoRow.knobs == [])) = true := by kernel_rfl
theorem fact8 : ((Tryz.pinned.checked.prog.stopKnobs == [])) = true := by kernel_rfl
theorem fact9 : ((Rows.linesBackUptoRow.inPlace == Tryz.pinned.checked.prog.inPlace 6)) = true := by kernel_rfl
theorem fact10 : ((Rows.linesBackUptoRow.unfollowed == Tryz.pinned.checked.prog.unfollowed 6)) = true := by kernel_rfl
theorem fact11 : ((Rows.linesBackUptoRow.recurses == Tryz.pinned.checked.prog.recurses 6)) = true := by kernel_rfl
theorem fact12 : ((Rows.linesBackUptoRow.named == Tryz.pinned.checked.prog.varsNamed 6)) = true := by kernel_rfl
theorem fact13 : ((Rows.linesBackUptoRow.maps == (Tryz.f6.params.toList ++ (Rows.OpenSpec.upto Rows.linesBackSpec).bare.plain.varTypes Tryz.pinned.checked.prog).any (Tryz.pinned.checked.prog.mapsRec ·))) = true := by kernel_rfl
theorem fact14 : ((Rows.linesBackUptoRow.ifaces == (Tryz.f6.params.toList ++ (Rows.OpenSpec.upto Rows.linesBackSpec).bare.plain.varTypes Tryz.pinned.checked.prog).any (Tryz.pinned.checked.prog.ifacesRec ·))) = true := by kernel_rfl
theorem fact15 : ((Rows.linesBackUptoRow.mapsOut == Tryz.pinned.checked.prog.mapsAmong Tryz.f6.resultTypes.toList)) = true := by kernel_rfl
theorem fact16 : ((Rows.linesBackUptoRow.loops == (Tryz.f6.params.toList ++ (Rows.OpenSpec.upto Rows.linesBackSpec).bare.plain.varTypes Tryz.pinned.checked.prog).any (Tryz.pinned.checked.prog.loopsFrom ·))) = true := by kernel_rfl
theorem fact17 : ((Rows.linesBackUptoRow.wideKeys == (Tryz.f6.params.toList ++ (Rows.OpenSpec.upto Rows.linesBackSpec).bare.plain.varTypes Tryz.pinned.checked.prog ++ Tryz.f6.resultTypes.toList).any (Tryz.pinned.checked.prog.wideKeysFrom ·))) = true := by kernel_rfl
theorem fact18 : ((Rows.OpenSpec.upto Rows.linesBackSpec).bare.vars.all (Tryz.pinned.checked.prog.varReadable ·)) = true := by kernel_rfl
theorem fact19 : (Tryz.f6.resultTypes.all (fun t => Tryz.pinned.checked.prog.readableRec t && decide (t < Tryz.pinned.checked.prog.types.size))) = true := by kernel_rfl
theorem fact20 : ((Rows.linesBackUptoRow.ifacesOut == Tryz.f6.resultTypes.toList.any (Tryz.pinned.checked.prog.ifacesRec ·))) = true := by kernel_rfl
theorem fact21 : ((Rows.linesBackUptoRow.loopsOut == Tryz.f6.resultTypes.toList.any (Tryz.pinned.checked.prog.loopsFrom ·))) = true := by kernel_rfl
theorem fact22 : ((Rows.linesBackUptoRow.plainKeys == Tryz.pinned.checked.prog.plainKeys)) = true := by kernel_rfl
theorem fact23 : (Rows.linesBackUptoRow.shortTexts.isNone) = true := by kernel_rfl
theorem fact24 : (Tryz.pinned.checked.prog.stopsHeard) = true := by kernel_rfl
theorem fact25 : (Tryz.pinned.checked.prog.mayEnter) = true := by kernel_rfl
theorem fact26 : ((Rows.linesBackUptoRow.lifted == Tryz.pinned.checked.prog.liftsFinal)) = true := by kernel_rfl
theorem fact27 : ((Tryz.pinned.checked.prog.make == some Rows.linesBackUptoRow.make)) = true := by kernel_rfl
theorem fact28 : ((Rows.linesBackUptoRow.kinds == (if Rows.linesBackUptoRow.domain.isEmpty then [] else Tryz.f6.params.toList.map fun t => match Tryz.pinned.checked.prog.underlying t with | some (.int k) => some k | _ => none))) = true := by kernel_rfl
theorem fact29 : ((Rows.linesBackUptoRow.pinned == Rows.linesBackUptoRow.pinnedBy)) = true := by kernel_rfl
theorem fact30 : ((Rows.linesBackUptoRow.veiled == (Tryz.f6.params.toList ++ (Rows.OpenSpec.upto Rows.linesBackSpec).bare.plain.varTypes Tryz.pinned.checked.prog ++ Tryz.f6.resultTypes.toList).any (Tryz.pinned.checked.prog.veiledRec ·))) = true := by kernel_rfl
theorem fact31 : (Rows.linesBackUptoRow.veiledFits Tryz.pinned.checked.prog Tryz.f6.params.toList (Tryz.f6.params.toList ++ (Rows.OpenSpec.upto Rows.linesBackSpec).bare.plain.varTypes Tryz.pinned.checked.prog ++ Tryz.f6.resultTypes.toList)) = true := by kernel_rfl
set_option maxRecDepth 100000 in
theorem closed : joinedFacts Tryz.pinned.checked.prog 6 Tryz.f6 (Rows.OpenSpec.upto Rows.linesBackSpec).bare Rows.linesBackUptoRow = true := by
  unfold joinedFacts
  refine andI ?_ fact31
  refine andI ?_ fact30
  refine andI ?_ fact29
  refine andI ?_ fact28
  refine andI ?_ fact27
  refine andI ?_ fact26
  refine andI ?_ fact25
  refine andI ?_ fact24
  refine andI ?_ fact23
  refine andI ?_ fact22
  refine andI ?_ fact21
  refine andI ?_ fact20
  refine andI ?_ fact19
  refine andI ?_ fact18
  refine andI ?_ fact17
  refine andI ?_ fact16
  refine andI ?_ fact15
  refine andI ?_ fact14
  refine andI ?_ fact13
  refine andI ?_ fact12
  refine andI ?_ fact11
  refine andI ?_ fact10
  refine andI ?_ fact9
  refine andI ?_ fact8
  refine andI ?_ fact7
  refine andI ?_ fact6
  refine andI ?_ fact5
  refine andI ?_ fact4
  refine andI ?_ fact3
  refine andI ?_ fact2
  refine andI ?_ fact1
  exact fact0
end Go.Proofs.YtngecegnlhmnlaaGreatDoor.linesBackUpto

