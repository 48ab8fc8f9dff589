/- The program is laid out: its types looked at a part at a time. Printed by laidgen.py. -/
import GoSem.ClaimDataLaid
import Derived.Test.YtmhmlneobbgadaaGreatDoorQa
import Derived.Test.YtmhmlneobbgadaaGreatDoorProg
namespace Go.Proofs.YtmhmlneobbgadaaGreatDoor.Ev
open Go Go.RowKit
theorem laid_size : Tryz.prog.types.size = 740 := by kernel_rfl
theorem laid_0 : (List.range' 0 40).all (rowFine Tryz.prog) = true := by kernel_rfl
theorem laid_1 : (List.range' 40 40).all (rowFine Tryz.prog) = true := by kernel_rfl
theorem laid_2 : (List.range' 80 40).all (rowFine Tryz.prog) = true := by kernel_rfl
theorem laid_3 : (List.range' 120 40).all (rowFine Tryz.prog) = true := by kernel_rfl
theorem laid_4 : (List.range' 160 40).all (rowFine Tryz.prog) = true := by kernel_rfl
theorem laid_5 : (List.range' 200 40).all (rowFine Tryz.prog) = true := by kernel_rfl
theorem laid_6 : (List.range' 240 40).all (rowFine Tryz.prog) = true := by kernel_rfl
theorem laid_7 : (List.range' 280 40).all (rowFine Tryz.prog) = true := by kernel_rfl
theorem laid_8 : (List.range' 320 40).all (rowFine Tryz.prog) = true := by kernel_rfl
theorem laid_9 : (List.range' 360 40).all (rowFine Tryz.prog) = true := by kernel_rfl
theorem laid_10 : (List.range' 400 40).all (rowFine Tryz.prog) = true := by kernel_rfl
theorem laid_11 : (List.range' 440 40).all (rowFine Tryz.prog) = true := by kernel_rfl
theorem laid_12 : (List.range' 480 40).all (rowFine Tryz.prog) = true := by kernel_rfl
theorem laid_13 : (List.range' 520 40).all (rowFine Tryz.prog) = true := by kernel_rfl
theorem laid_14 : (List.range' 560 40).all (rowFine Tryz.prog) = true := by kernel_rfl
theorem laid_15 : (List.range' 600 40).all (rowFine Tryz.prog) = true := by kernel_rfl
theorem laid_16 : (List.range' 640 40).all (rowFine Tryz.prog) = true := by kernel_rfl
theorem laid_17 : (List.range' 680 40).all (rowFine Tryz.prog) = true := by kernel_rfl
theorem laid_18 : (List.range' 720 20).all (rowFine Tryz.prog) = true := by kernel_rfl
theorem laid_g : (Tryz.prog.globals.all (fun g => decide (g.type < Tryz.prog.types.size)) && Tryz.prog.funcs.all (fun f => f.params.all fun t => decide (t < Tryz.prog.types.size))) = true := by kernel_rfl
theorem laid_at {a n t : Nat} (h : (List.range' a n).all (rowFine Tryz.prog) = true) (h1 : a ≤ t) (h2 : t < a + n) : rowFine Tryz.prog t = true := List.all_eq_true.mp h t (List.mem_range'.mpr ⟨t - a, by omega, by omega⟩)
theorem laid_row (t : Nat) (h : t < 740) : rowFine Tryz.prog t = true := by
  by_cases h0 : t < 40
  · exact laid_at laid_0 (by omega) (by omega)
  by_cases h1 : t < 80
  · exact laid_at laid_1 (by omega) (by omega)
  by_cases h2 : t < 120
  · exact laid_at laid_2 (by omega) (by omega)
  by_cases h3 : t < 160
  · exact laid_at laid_3 (by omega) (by omega)
  by_cases h4 : t < 200
  · exact laid_at laid_4 (by omega) (by omega)
  by_cases h5 : t < 240
  · exact laid_at laid_5 (by omega) (by omega)
  by_cases h6 : t < 280
  · exact laid_at laid_6 (by omega) (by omega)
  by_cases h7 : t < 320
  · exact laid_at laid_7 (by omega) (by omega)
  by_cases h8 : t < 360
  · exact laid_at laid_8 (by omega) (by omega)
  by_cases h9 : t < 400
  · exact laid_at laid_9 (by omega) (by omega)
  by_cases h10 : t < 440
  · exact laid_at laid_10 (by omega) (by omega)
  by_cases h11 : t < 480
  · exact laid_at laid_11 (by omega) (by omega)
  by_cases h12 : t < 520
  · exact laid_at laid_12 (by omega) (by omega)
  by_cases h13 : t < 560
  · exact laid_at laid_13 (by omega) (by omega)
  by_cases h14 : t < 600
  · exact laid_at laid_14 (by omega) (by omega)
  by_cases h15 : t < 640
  · exact laid_at laid_15 (by omega) (by omega)
  by_cases h16 : t < 680
  · exact laid_at laid_16 (by omega) (by omega)
  by_cases h17 : t < 720
  · exact laid_at laid_17 (by omega) (by omega)
  by_cases h18 : t < 740
  · exact laid_at laid_18 (by omega) (by omega)
  omega
theorem laidD : laidOutB Tryz.prog = true := by
  unfold laidOutB
  rw [Bool.and_assoc, laid_g, Bool.and_true, laid_size]
  exact List.all_eq_true.mpr fun t h => laid_row t (List.mem_range.mp h)
end Go.Proofs.YtmhmlneobbgadaaGreatDoor.Ev
