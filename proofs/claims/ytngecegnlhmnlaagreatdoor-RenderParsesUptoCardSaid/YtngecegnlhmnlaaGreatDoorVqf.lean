/- The closed facts of RenderParsesUpto's row, one by one. -/
import Derived.Test.YtngecegnlhmnlaaGreatDoorRows
import Derived.Test.YtngecegnlhmnlaaGreatDoorProg
import Derived.JoinedOf
import Derived.JoinedCond
namespace Go.Proofs.YtngecegnlhmnlaaGreatDoor.renderParsesUpto
open Go
theorem andI {a b : Bool} (h : a = true) (k : b = true) : (a && b) = true := by rw [h, k]; rfl
theorem fact0 : (Rows.renderParsesUptoRow.wf (OpenSpec.ofChange (Rows.OpenSpec.upto Rows.renderParsesSpec).bare)) = true := by kernel_rfl
theorem fact1 : (laidOutB Tryz.pinned.checked.prog) = true := by kernel_rfl
theorem fact2 : (mapsRowed Tryz.pinned.checked.prog) = true := by kernel_rfl
theorem fact3 : (Tryz.f16.params.all (Tryz.pinned.checked.prog.readableRec ·)) = true := by kernel_rfl
theorem fact4 : (namedTie Tryz.pinned.checked.prog Rows.renderParsesUptoRow.named (Rows.OpenSpec.upto Rows.renderParsesSpec).bare.vars) = true := by kernel_rfl
theorem fact5 : ((Rows.renderParsesUptoRow.stops == [])) = true := by kernel_rfl
theorem fact6 : ((Tryz.pinned.checked.prog.stops == [])) = true := by kernel_rfl
theorem fact7 : ((Rows.renderParsesUptoRow.knobs == [])) = true := by kernel_rfl
theorem fact8 : ((Tryz.pinned.checked.prog.stopKnobs == [])) = true := by kernel_rfl
theorem fact9 : ((Rows.renderParsesUptoRow.inPlace == Tryz.pinned.checked.prog.inPlace 16)) = true := by kernel_rfl
theorem fact10 : ((Rows.renderParsesUptoRow.unfollowed == Tryz.pinned.checked.prog.unfollowed 16)) = true := by kernel_rfl
theorem fact11 : ((Rows.renderParsesUptoRow.recurses == Tryz.pinned.checked.prog.recurses 16)) = true := by kernel_rfl
theorem fact12 : ((Rows.renderParsesUptoRow.named == Tryz.pinned.checked.prog.varsNamed 16)) = true := by kernel_rfl
theorem fact13 : ((Rows.renderParsesUptoRow.maps == (Tryz.f16.params.toList ++ (Rows.OpenSpec.upto Rows.renderParsesSpec).bare.plain.varTypes Tryz.pinned.checked.prog).any (Tryz.pinned.checked.prog.mapsRec ·))) = true := by kernel_rfl
theorem fact14 : ((Rows.renderParsesUptoRow.ifaces == (Tryz.f16.params.toList ++ (Rows.OpenSpec.upto Rows.renderParsesSpec).bare.plain.varTypes Tryz.pinned.checked.prog).any (Tryz.pinned.checked.prog.ifacesRec ·))) = true := by kernel_rfl
theorem fact15 : ((Rows.renderParsesUptoRow.mapsOut == Tryz.pinned.checked.prog.mapsAmong Tryz.f16.resultTypes.toList)) = true := by kernel_rfl
theorem fact16 : ((Rows.renderParsesUptoRow.loops == (Tryz.f16.params.toList ++ (Rows.OpenSpec.upto Rows.renderParsesSpec).bare.plain.varTypes Tryz.pinned.checked.prog).any (Tryz.pinned.checked.prog.loopsFrom ·))) = true := by kernel_rfl
theorem fact17 : ((Rows.renderParsesUptoRow.wideKeys == (Tryz.f16.params.toList ++ (Rows.OpenSpec.upto Rows.renderParsesSpec).bare.plain.varTypes Tryz.pinned.checked.prog ++ Tryz.f16.resultTypes.toList).any (Tryz.pinned.checked.prog.wideKeysFrom ·))) = true := by kernel_rfl
theorem fact18 : ((Rows.OpenSpec.upto Rows.renderParsesSpec).bare.vars.all (Tryz.pinned.checked.prog.varReadable ·)) = true := by kernel_rfl
theorem fact19 : (Tryz.f16.resultTypes.all (fun t => Tryz.pinned.checked.prog.readableRec t && decide (t < Tryz.pinned.checked.prog.types.size))) = true := by kernel_rfl
theorem fact20 : ((Rows.renderParsesUptoRow.ifacesOut == Tryz.f16.resultTypes.toList.any (Tryz.pinned.checked.prog.ifacesRec ·))) = true := by kernel_rfl
theorem fact21 : ((Rows.renderParsesUptoRow.loopsOut == Tryz.f16.resultTypes.toList.any (Tryz.pinned.checked.prog.loopsFrom ·))) = true := by kernel_rfl
theorem fact22 : ((Rows.renderParsesUptoRow.plainKeys == Tryz.pinned.checked.prog.plainKeys)) = true := by kernel_rfl
theorem fact23 : (Rows.renderParsesUptoRow.shortTexts.isNone) = true := by kernel_rfl
theorem fact24 : (Tryz.pinned.checked.prog.stopsHeard) = true := by kernel_rfl
theorem fact25 : (Tryz.pinned.checked.prog.mayEnter) = true := by kernel_rfl
theorem fact26 : ((Rows.renderParsesUptoRow.lifted == Tryz.pinned.checked.prog.liftsFinal)) = true := by kernel_rfl
theorem fact27 : ((Tryz.pinned.checked.prog.make == some Rows.renderParsesUptoRow.make)) = true := by kernel_rfl
theorem fact28 : ((Rows.renderParsesUptoRow.kinds == (if Rows.renderParsesUptoRow.domain.isEmpty then [] else Tryz.f16.params.toList.map fun t => match Tryz.pinned.checked.prog.underlying t with | some (.int k) => some k | _ => none))) = true := by kernel_rfl
theorem fact29 : ((Rows.renderParsesUptoRow.pinned == Rows.renderParsesUptoRow.pinnedBy)) = true := by kernel_rfl
theorem fact30 : ((Rows.renderParsesUptoRow.veiled == (Tryz.f16.params.toList ++ (Rows.OpenSpec.upto Rows.renderParsesSpec).bare.plain.varTypes Tryz.pinned.checked.prog ++ Tryz.f16.resultTypes.toList).any (Tryz.pinned.checked.prog.veiledRec ·))) = true := by kernel_rfl
theorem fact31 : (Rows.renderParsesUptoRow.veiledFits Tryz.pinned.checked.prog Tryz.f16.params.toList (Tryz.f16.params.toList ++ (Rows.OpenSpec.upto Rows.renderParsesSpec).bare.plain.varTypes Tryz.pinned.checked.prog ++ Tryz.f16.resultTypes.toList)) = true := by kernel_rfl
set_option maxRecDepth 100000 in
theorem closed : joinedFacts Tryz.pinned.checked.prog 16 Tryz.f16 (Rows.OpenSpec.upto Rows.renderParsesSpec).bare Rows.renderParsesUptoRow = true := by
  unfold joinedFacts
  refine andI ?_ fact31
  refine andI ?_ fact30
  refine andI ?_ fact29
  refine andI ?_ fact28
  refine andI ?_ fact27
  refine andI ?_ fact26
  refine andI ?_ fact25
  refine andI ?_ fact24
  refine andI ?_ fact23
  refine andI ?_ fact22
  refine andI ?_ fact21
  refine andI ?_ fact20
  refine andI ?_ fact19
  refine andI ?_ fact18
  refine andI ?_ fact17
  refine andI ?_ fact16
  refine andI ?_ fact15
  refine andI ?_ fact14
  refine andI ?_ fact13
  refine andI ?_ fact12
  refine andI ?_ fact11
  refine andI ?_ fact10
  refine andI ?_ fact9
  refine andI ?_ fact8
  refine andI ?_ fact7
  refine andI ?_ fact6
  refine andI ?_ fact5
  refine andI ?_ fact4
  refine andI ?_ fact3
  refine andI ?_ fact2
  refine andI ?_ fact1
  exact fact0
end Go.Proofs.YtngecegnlhmnlaaGreatDoor.renderParsesUpto

