/- The tie of DeskLines's row. -/
import Derived.Test.YtmhmlneobbgadaaGreatDoorDnt
namespace Go.Proofs.YtmhmlneobbgadaaGreatDoor.deskLinesUpto
open Go Go.Proofs.YtmhmlneobbgadaaGreatDoor.Dtie
theorem deskLinesUpto_row_tie : Rows.deskLinesUptoRow.laidByTextAt .later Tryz.pinned [.pinned, .data, .sentinel, .sentinel, .data, .data, .data] true :=
  OpenClaim.laidByTextAt_pinned rfl rfl tie rfl rfl rfl rfl (fun y hy _e => by
    simp only [Rows.deskLinesUptoRow, List.zip_cons_cons, List.zip_nil_right, List.mem_cons, List.mem_nil_iff, or_false] at hy
    rcases hy with rfl | rfl | rfl | rfl | rfl | rfl | rfl
    · exact ⟨pin_laid_unicode_utf8_first, by kernel_rfl⟩
    · cases _e
    · cases _e
    · cases _e
    · cases _e
    · cases _e
    · cases _e) fits1
end Go.Proofs.YtmhmlneobbgadaaGreatDoor.deskLinesUpto
