/- The desk's run: numerals, printed and read. Printed by tabgen.py. -/
import Derived.Test.YtmhmlneobbgadaaGreatDoorDt
set_option maxRecDepth 100000
namespace Go.Proofs.YtmhmlneobbgadaaGreatDoor.Ev
open Go Go.RowKit Go.Vc Go.Xv
noncomputable def num0 : List CV × CV := ([(.p (.o (.k (.int .u64 0))))], (.p (.o (.k (.string ⟨#[48]⟩)))))
theorem num0_ok : Kn Tryz.prog g0 39 num0.1 num0.2 := kn_run (runD_ok orc2_ok 40) (by kernel_rfl) (by kernel_rfl)
noncomputable def num1 : List CV × CV := ([(.p (.o (.k (.string ⟨#[49]⟩)))), (.p (.o (.k (.int .u64 2147483647))))], (.t [(.o (.k (.int .u64 1))), (.o (.k (.int .i64 0)))]))
theorem num1_ok : Kn Tryz.prog g0 57 num1.1 num1.2 := kn_run (runD_ok orc2_ok 40) (by kernel_rfl) (by kernel_rfl)
noncomputable def num2 : List CV × CV := ([(.p (.o (.k (.string ⟨#[48]⟩)))), (.p (.o (.k (.int .u64 2147483647))))], (.t [(.o (.k (.int .u64 0))), (.o (.k (.int .i64 0)))]))
theorem num2_ok : Kn Tryz.prog g0 57 num2.1 num2.2 := kn_run (runD_ok orc2_ok 40) (by kernel_rfl) (by kernel_rfl)
noncomputable def num3 : List CV × CV := ([(.p (.o (.k (.int .u64 500))))], (.p (.o (.k (.string ⟨#[53, 48, 48]⟩)))))
theorem num3_ok : Kn Tryz.prog g0 39 num3.1 num3.2 := kn_run (runD_ok orc2_ok 40) (by kernel_rfl) (by kernel_rfl)
noncomputable def num4 : List CV × CV := ([(.p (.o (.k (.int .u64 1))))], (.p (.o (.k (.string ⟨#[49]⟩)))))
theorem num4_ok : Kn Tryz.prog g0 39 num4.1 num4.2 := kn_run (runD_ok orc2_ok 40) (by kernel_rfl) (by kernel_rfl)
noncomputable def num5 : List CV × CV := ([(.p (.o (.k (.int .u64 3))))], (.p (.o (.k (.string ⟨#[51]⟩)))))
theorem num5_ok : Kn Tryz.prog g0 39 num5.1 num5.2 := kn_run (runD_ok orc2_ok 40) (by kernel_rfl) (by kernel_rfl)
noncomputable def num6 : List CV × CV := ([(.p (.o (.k (.string ⟨#[56]⟩)))), (.p (.o (.k (.int .u64 2147483647))))], (.t [(.o (.k (.int .u64 8))), (.o (.k (.int .i64 0)))]))
theorem num6_ok : Kn Tryz.prog g0 57 num6.1 num6.2 := kn_run (runD_ok orc2_ok 40) (by kernel_rfl) (by kernel_rfl)
noncomputable def num7 : List CV × CV := ([(.p (.o (.k (.string ⟨#[53, 48, 48]⟩)))), (.p (.o (.k (.int .u64 18446744073709551615))))], (.t [(.o (.k (.int .u64 500))), (.o (.k (.int .i64 0)))]))
theorem num7_ok : Kn Tryz.prog g0 57 num7.1 num7.2 := kn_run (runD_ok orc2_ok 40) (by kernel_rfl) (by kernel_rfl)
noncomputable def num8 : List CV × CV := ([(.p (.o (.k (.string ⟨#[52]⟩)))), (.p (.o (.k (.int .u64 2147483647))))], (.t [(.o (.k (.int .u64 4))), (.o (.k (.int .i64 0)))]))
theorem num8_ok : Kn Tryz.prog g0 57 num8.1 num8.2 := kn_run (runD_ok orc2_ok 40) (by kernel_rfl) (by kernel_rfl)
noncomputable def num9 : List CV × CV := ([(.p (.o (.k (.string ⟨#[49]⟩)))), (.p (.o (.k (.int .u64 18446744073709551615))))], (.t [(.o (.k (.int .u64 1))), (.o (.k (.int .i64 0)))]))
theorem num9_ok : Kn Tryz.prog g0 57 num9.1 num9.2 := kn_run (runD_ok orc2_ok 40) (by kernel_rfl) (by kernel_rfl)
noncomputable def num10 : List CV × CV := ([(.p (.o (.k (.string ⟨#[49, 48]⟩)))), (.p (.o (.k (.int .u64 2147483647))))], (.t [(.o (.k (.int .u64 10))), (.o (.k (.int .i64 0)))]))
theorem num10_ok : Kn Tryz.prog g0 57 num10.1 num10.2 := kn_run (runD_ok orc2_ok 40) (by kernel_rfl) (by kernel_rfl)
noncomputable def num11 : List CV × CV := ([(.p (.o (.k (.int .u64 4))))], (.p (.o (.k (.string ⟨#[52]⟩)))))
theorem num11_ok : Kn Tryz.prog g0 39 num11.1 num11.2 := kn_run (runD_ok orc2_ok 40) (by kernel_rfl) (by kernel_rfl)
noncomputable def num12 : List CV × CV := ([(.p (.o (.k (.int .u64 32))))], (.p (.o (.k (.string ⟨#[51, 50]⟩)))))
theorem num12_ok : Kn Tryz.prog g0 39 num12.1 num12.2 := kn_run (runD_ok orc2_ok 40) (by kernel_rfl) (by kernel_rfl)
noncomputable def tabN : Tab := [(39, [num0, num3, num4, num5, num11, num12]), (57, [num1, num2, num6, num7, num8, num9, num10])]
theorem tabN_ok : TabOk Tryz.prog g0 tabN := fun f l hl q hq => by
  simp only [tabN, List.mem_cons, List.not_mem_nil, or_false, Prod.mk.injEq] at hl
  rcases hl with ⟨rfl, rfl⟩ | ⟨rfl, rfl⟩
  · simp only [List.mem_cons, List.not_mem_nil, or_false] at hq
    rcases hq with rfl | rfl | rfl | rfl | rfl | rfl
    · exact num0_ok
    · exact num3_ok
    · exact num4_ok
    · exact num5_ok
    · exact num11_ok
    · exact num12_ok
  · simp only [List.mem_cons, List.not_mem_nil, or_false] at hq
    rcases hq with rfl | rfl | rfl | rfl | rfl | rfl | rfl
    · exact num1_ok
    · exact num2_ok
    · exact num6_ok
    · exact num7_ok
    · exact num8_ok
    · exact num9_ok
    · exact num10_ok
noncomputable def orc3 : Orc := orcT tab1 (orcT tab2 (orcT tabN orcB))
theorem orc3_ok : OrcOk Tryz.prog g0 orc3 := orcT_ok tab1_ok (orcT_ok tab2_ok (orcT_ok tabN_ok orcB_ok))
end Go.Proofs.YtmhmlneobbgadaaGreatDoor.Ev
