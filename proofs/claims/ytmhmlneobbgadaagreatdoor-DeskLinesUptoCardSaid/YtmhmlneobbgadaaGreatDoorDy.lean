/- The desk's run: calls that are known, the greater ones. Printed by tabgen.py. -/
import Derived.Test.YtmhmlneobbgadaaGreatDoorDu
set_option maxRecDepth 100000
namespace Go.Proofs.YtmhmlneobbgadaaGreatDoor.Ev
open Go Go.RowKit Go.Vc Go.Xv
noncomputable def big0 : List CV × CV := ([(.p (.o (.k (.int .i64 0))))], (.p (.o (.k (.int .u64 0)))))
theorem big0_ok : Kn Tryz.prog g0 54 big0.1 big0.2 := kn_run (runD_ok orc3_ok 40) (by kernel_rfl) (by kernel_rfl)
noncomputable def big1 : List CV × CV := ([(.p (.o (.k (.int .i64 10)))), (.p (.o (.k (.int .i64 1)))), (.p (.o (.k (.int .i64 4))))], (.p (.o (.k (.bool true)))))
theorem big1_ok : Kn Tryz.prog g0 178 big1.1 big1.2 := kn_run (runD_ok orc3_ok 40) (by kernel_rfl) (by kernel_rfl)
noncomputable def big2 : List CV × CV := ([(.p (.o (.k (.int .i64 1))))], (.p (.o (.k (.int .u64 1)))))
theorem big2_ok : Kn Tryz.prog g0 54 big2.1 big2.2 := kn_run (runD_ok orc3_ok 40) (by kernel_rfl) (by kernel_rfl)
noncomputable def big3 : List CV × CV := ([(.p (.o (.k (.string ⟨#[109, 97, 107, 101, 32, 48, 32, 115, 97, 118, 105, 110, 103, 32, 49, 48, 32, 49, 47, 52, 32, 98, 121, 116, 101, 115, 32, 118, 52, 58, 115, 114, 99, 58, 56, 10, 105, 110, 103, 101, 115, 116, 32, 48, 32, 108, 105, 110, 101, 115, 32, 115, 114, 99, 61, 49, 48, 46, 48, 46, 48, 46, 49, 32, 112, 97, 99, 107, 101, 116, 115, 61, 49, 32, 98, 121, 116, 101, 115, 61, 53, 48, 48, 10, 114, 101, 112, 111, 114, 116, 32, 48, 32, 112, 108, 97, 105, 110, 10, 33, 100, 114, 111, 112, 32, 49, 10, 102, 108, 121, 32, 49, 10, 103, 111, 10, 99, 111, 117, 110, 116, 115]⟩)))), (.p (.o (.k (.string ⟨#[10]⟩))))], (.p (.o (.k (.int .i64 6)))))
theorem big3_ok : Kn Tryz.prog g0 47 big3.1 big3.2 := kn_run (runD_ok orc3_ok 40) (by kernel_rfl) (by kernel_rfl)
noncomputable def big4 : List CV × CV := ([(.p (.o (.k (.string ⟨#[49]⟩)))), (.p (.o (.k (.string ⟨#[32]⟩))))], (.t [(.o (.k (.string ⟨#[49]⟩))), (.o (.k (.string ⟨#[]⟩))), (.o (.k (.bool false)))]))
theorem big4_ok : Kn Tryz.prog g0 25 big4.1 big4.2 := kn_run (runD_ok orc3_ok 40) (by kernel_rfl) (by kernel_rfl)
noncomputable def big5 : List CV × CV := ([(.p (.g [(.k (.int .i64 1)), (.k (.int .i64 10)), (.k (.int .i64 0)), (.k (.int .i64 1)), (.k (.int .i64 1)), (.k (.int .i64 1)), (.k (.int .i64 8)), (.k (.int .i64 0)), (.k (.int .i64 0)), (.k (.int .i64 0)), (.k (.int .i64 3)), (.k (.int .i64 1)), (.k (.int .i64 4))]))], (.p (.o (.k (.bool true)))))
theorem big5_ok : Kn Tryz.prog g0 152 big5.1 big5.2 := kn_run (runD_ok orc3_ok 40) (by kernel_rfl) (by kernel_rfl)
noncomputable def big6 : List CV × CV := ([(.p (.o (.k (.string ⟨#[33, 100, 114, 111, 112, 32, 49]⟩))))], (.t [(.g [(.k (.int .i64 9)), (.k (.int .i64 1)), (.k (.int .i64 0)), (.k (.int .i64 0)), (.k (.slice none 0 0)), (.k (.string ⟨#[]⟩))]), (.o (.k (.bool true))), (.o (.k (.int .i64 0)))]))
theorem big6_ok : Kn Tryz.prog g0 9 big6.1 big6.2 := kn_run (runD_ok orc3_ok 40) (by kernel_rfl) (by kernel_rfl)
noncomputable def big7 : List CV × CV := ([(.p (.o (.k (.string ⟨#[114, 101, 112, 111, 114, 116, 32, 48, 32, 112, 108, 97, 105, 110]⟩))))], (.t [(.g [(.k (.int .i64 7)), (.k (.int .i64 0)), (.k (.int .i64 0)), (.k (.int .i64 0)), (.k (.slice none 0 0)), (.k (.string ⟨#[]⟩))]), (.o (.k (.bool false))), (.o (.k (.int .i64 0)))]))
theorem big7_ok : Kn Tryz.prog g0 9 big7.1 big7.2 := kn_run (runD_ok orc3_ok 40) (by kernel_rfl) (by kernel_rfl)
noncomputable def big8 : List CV × CV := ([(.p (.o (.k (.string ⟨#[109, 97, 107, 101, 32, 48, 32, 115, 97, 118, 105, 110, 103, 32, 49, 48, 32, 49, 47, 52, 32, 98, 121, 116, 101, 115, 32, 118, 52, 58, 115, 114, 99, 58, 56]⟩))))], (.t [(.g [(.k (.int .i64 1)), (.k (.int .i64 0)), (.k (.int .i64 0)), (.k (.int .i64 0)), (.k (.slice none 0 0)), (.k (.string ⟨#[115, 97, 118, 105, 110, 103, 32, 49, 48, 32, 49, 47, 52, 32, 98, 121, 116, 101, 115, 32, 118, 52, 58, 115, 114, 99, 58, 56]⟩))]), (.o (.k (.bool false))), (.o (.k (.int .i64 0)))]))
theorem big8_ok : Kn Tryz.prog g0 9 big8.1 big8.2 := kn_run (runD_ok orc3_ok 40) (by kernel_rfl) (by kernel_rfl)
noncomputable def big9 : List CV × CV := ([(.p (.o (.k (.string ⟨#[102, 108, 121, 32, 49]⟩))))], (.t [(.g [(.k (.int .i64 0)), (.k (.int .i64 0)), (.k (.int .i64 0)), (.k (.int .i64 0)), (.k (.slice none 0 0)), (.k (.string ⟨#[]⟩))]), (.o (.k (.bool false))), (.o (.k (.int .i64 3)))]))
theorem big9_ok : Kn Tryz.prog g0 9 big9.1 big9.2 := kn_run (runD_ok orc3_ok 40) (by kernel_rfl) (by kernel_rfl)
noncomputable def big10 : List CV × CV := ([(.p (.o (.k (.string ⟨#[115, 114, 99, 61, 49, 48, 46, 48, 46, 48, 46, 49, 32, 112, 97, 99, 107, 101, 116, 115, 61, 49, 32, 98, 121, 116, 101, 115, 61, 53, 48, 48]⟩)))), (.p (.o (.k (.string ⟨#[59]⟩)))), (.p (.o (.k (.string ⟨#[10]⟩))))], (.p (.o (.k (.string ⟨#[115, 114, 99, 61, 49, 48, 46, 48, 46, 48, 46, 49, 32, 112, 97, 99, 107, 101, 116, 115, 61, 49, 32, 98, 121, 116, 101, 115, 61, 53, 48, 48]⟩)))))
theorem big10_ok : Kn Tryz.prog g0 84 big10.1 big10.2 := kn_run (runD_ok orc3_ok 40) (by kernel_rfl) (by kernel_rfl)
noncomputable def big11 : List CV × CV := ([(.p (.g [(.k (.int .i64 9)), (.k (.int .i64 1)), (.k (.int .i64 0)), (.k (.int .i64 0)), (.k (.slice none 0 0)), (.k (.string ⟨#[]⟩))])), (.p (.g [(.k (.int .i64 4)), (.k (.int .i64 0)), (.k (.int .i64 0)), (.k (.int .i64 0)), (.k (.int .i64 0)), (.k (.int .i64 0)), (.k (.int .i64 0)), (.k (.int .u64 0)), (.k (.int .u64 0)), (.k (.slice none 0 0)), (.k (.string ⟨#[]⟩))]))], (.p (.o (.k (.string ⟨#[101, 114, 114, 111, 114, 32, 52, 10]⟩)))))
theorem big11_ok : Kn Tryz.prog g0 75 big11.1 big11.2 := kn_run (runD_ok orc3_ok 40) (by kernel_rfl) (by kernel_rfl)
noncomputable def big12 : List CV × CV := ([(.p (.g [(.k (.int .i64 7)), (.k (.int .i64 0)), (.k (.int .i64 0)), (.k (.int .i64 0)), (.k (.slice none 0 0)), (.k (.string ⟨#[]⟩))])), (.p (.g [(.k (.int .i64 0)), (.k (.int .i64 0)), (.k (.int .i64 0)), (.k (.int .i64 0)), (.k (.int .i64 0)), (.k (.int .i64 0)), (.k (.int .i64 0)), (.k (.int .u64 0)), (.k (.int .u64 0)), (.k (.slice none 0 0)), (.k (.string ⟨#[49, 48, 46, 48, 46, 48, 46, 49, 47, 51, 50, 32, 108, 111, 119, 61, 53, 48, 48, 32, 104, 105, 103, 104, 61, 53, 48, 48, 32, 101, 115, 116, 61, 53, 48, 48, 10]⟩))]))], (.p (.o (.k (.string ⟨#[111, 107, 10, 49, 48, 46, 48, 46, 48, 46, 49, 47, 51, 50, 32, 108, 111, 119, 61, 53, 48, 48, 32, 104, 105, 103, 104, 61, 53, 48, 48, 32, 101, 115, 116, 61, 53, 48, 48, 10]⟩)))))
theorem big12_ok : Kn Tryz.prog g0 75 big12.1 big12.2 := kn_run (runD_ok orc3_ok 40) (by kernel_rfl) (by kernel_rfl)
noncomputable def big13 : List CV × CV := ([(.p (.g [(.k (.int .i64 1)), (.k (.int .i64 0)), (.k (.int .i64 0)), (.k (.int .i64 0)), (.k (.slice none 0 0)), (.k (.string ⟨#[115, 97, 118, 105, 110, 103, 32, 49, 48, 32, 49, 47, 52, 32, 98, 121, 116, 101, 115, 32, 118, 52, 58, 115, 114, 99, 58, 56]⟩))])), (.p (.g [(.k (.int .i64 0)), (.k (.int .i64 0)), (.k (.int .i64 0)), (.k (.int .i64 0)), (.k (.int .i64 0)), (.k (.int .i64 0)), (.k (.int .i64 0)), (.k (.int .u64 0)), (.k (.int .u64 0)), (.k (.slice none 0 0)), (.k (.string ⟨#[]⟩))]))], (.p (.o (.k (.string ⟨#[111, 107, 10]⟩)))))
theorem big13_ok : Kn Tryz.prog g0 75 big13.1 big13.2 := kn_run (runD_ok orc3_ok 40) (by kernel_rfl) (by kernel_rfl)
noncomputable def big14 : List CV × CV := ([(.p (.o (.k (.string ⟨#[48]⟩))))], (.t [(.o (.k (.slice none 0 0))), (.o (.k (.int .i64 3)))]))
theorem big14_ok : Kn Tryz.prog g0 6 big14.1 big14.2 := kn_run (runD_ok orc3_ok 40) (by kernel_rfl) (by kernel_rfl)
noncomputable def big15 : List CV × CV := ([(.p (.o (.k (.int .i64 4))))], (.p (.o (.k (.int .u64 4)))))
theorem big15_ok : Kn Tryz.prog g0 54 big15.1 big15.2 := kn_run (runD_ok orc3_ok 40) (by kernel_rfl) (by kernel_rfl)
noncomputable def big16 : List CV × CV := ([(.p (.o (.k (.int .i64 3))))], (.p (.o (.k (.int .u64 3)))))
theorem big16_ok : Kn Tryz.prog g0 54 big16.1 big16.2 := kn_run (runD_ok orc3_ok 40) (by kernel_rfl) (by kernel_rfl)
noncomputable def big17 : List CV × CV := ([(.p (.o (.k (.string ⟨#[49, 48, 46, 48, 46, 48, 46, 49]⟩)))), (.p (.o (.k (.string ⟨#[46]⟩))))], (.p (.o (.k (.int .i64 3)))))
theorem big17_ok : Kn Tryz.prog g0 47 big17.1 big17.2 := kn_run (runD_ok orc3_ok 40) (by kernel_rfl) (by kernel_rfl)
noncomputable def big18 : List CV × CV := ([(.p (.o (.k (.string ⟨#[118, 52, 58, 115, 114, 99, 58, 56]⟩)))), (.p (.o (.k (.string ⟨#[58]⟩))))], (.p (.o (.k (.int .i64 2)))))
theorem big18_ok : Kn Tryz.prog g0 47 big18.1 big18.2 := kn_run (runD_ok orc3_ok 40) (by kernel_rfl) (by kernel_rfl)
noncomputable def big19 : List CV × CV := ([(.p (.o (.k (.string ⟨#[115, 97, 118, 105, 110, 103, 32, 49, 48, 32, 49, 47, 52, 32, 98, 121, 116, 101, 115, 32, 118, 52, 58, 115, 114, 99, 58, 56]⟩)))), (.p (.o (.k (.string ⟨#[32]⟩))))], (.p (.o (.k (.int .i64 4)))))
theorem big19_ok : Kn Tryz.prog g0 47 big19.1 big19.2 := kn_run (runD_ok orc3_ok 40) (by kernel_rfl) (by kernel_rfl)
noncomputable def big20 : List CV × CV := ([(.p (.o (.k (.string ⟨#[115, 114, 99, 61, 49, 48, 46, 48, 46, 48, 46, 49, 32, 112, 97, 99, 107, 101, 116, 115, 61, 49, 32, 98, 121, 116, 101, 115, 61, 53, 48, 48]⟩)))), (.p (.o (.k (.string ⟨#[59]⟩))))], (.p (.o (.k (.int .i64 0)))))
theorem big20_ok : Kn Tryz.prog g0 47 big20.1 big20.2 := kn_run (runD_ok orc3_ok 40) (by kernel_rfl) (by kernel_rfl)
noncomputable def big21 : List CV × CV := ([(.p (.o (.k (.string ⟨#[115, 114, 99, 61, 49, 48, 46, 48, 46, 48, 46, 49, 32, 112, 97, 99, 107, 101, 116, 115, 61, 49, 32, 98, 121, 116, 101, 115, 61, 53, 48, 48]⟩)))), (.p (.o (.k (.string ⟨#[32]⟩))))], (.p (.o (.k (.int .i64 2)))))
theorem big21_ok : Kn Tryz.prog g0 47 big21.1 big21.2 := kn_run (runD_ok orc3_ok 40) (by kernel_rfl) (by kernel_rfl)
noncomputable def big22 : List CV × CV := ([(.p (.o (.k (.string ⟨#[115, 114, 99, 61, 49, 48, 46, 48, 46, 48, 46, 49, 32, 112, 97, 99, 107, 101, 116, 115, 61, 49, 32, 98, 121, 116, 101, 115, 61, 53, 48, 48]⟩)))), (.p (.o (.k (.string ⟨#[10]⟩))))], (.p (.o (.k (.int .i64 0)))))
theorem big22_ok : Kn Tryz.prog g0 47 big22.1 big22.2 := kn_run (runD_ok orc3_ok 40) (by kernel_rfl) (by kernel_rfl)
noncomputable def big23 : List CV × CV := ([(.p (.g [(.k (.int .i64 1)), (.k (.int .i64 1)), (.k (.int .i64 1)), (.k (.int .i64 8)), (.k (.int .i64 0)), (.k (.int .i64 0)), (.k (.int .i64 0))])), (.p (.g [(.k (.int .i64 4)), (.k (.int .i64 0)), (.k (.int .i64 1)), (.k (.int .i64 0)), (.k (.int .u64 0)), (.k (.int .u64 0)), (.k (.string ⟨#[]⟩)), (.k (.int .i64 0)), (.k (.int .i64 0)), (.k (.int .u64 0)), (.k (.int .u64 0)), (.k (.string ⟨#[]⟩))])), (.p (.g [(.k (.int .i64 0)), (.k (.int .i64 0)), (.k (.int .i64 1)), (.k (.int .i64 32)), (.k (.int .u64 720575944674246656)), (.k (.int .u64 0)), (.k (.string ⟨#[]⟩)), (.k (.int .i64 0)), (.k (.int .i64 0)), (.k (.int .u64 0)), (.k (.int .u64 0)), (.k (.string ⟨#[]⟩))]))], (.p (.o (.k (.bool true)))))
theorem big23_ok : Kn Tryz.prog g0 407 big23.1 big23.2 := kn_run (runD_ok orc3_ok 40) (by kernel_rfl) (by kernel_rfl)
noncomputable def big24 : List CV × CV := ([(.p (.g [(.k (.int .i64 1)), (.k (.int .i64 1)), (.k (.int .i64 1)), (.k (.int .i64 8)), (.k (.int .i64 0)), (.k (.int .i64 0)), (.k (.int .i64 0))])), (.p (.g [(.k (.int .i64 3)), (.k (.int .i64 0)), (.k (.int .i64 1)), (.k (.int .i64 8)), (.k (.int .u64 720575940379279360)), (.k (.int .u64 0)), (.k (.string ⟨#[]⟩)), (.k (.int .i64 0)), (.k (.int .i64 0)), (.k (.int .u64 0)), (.k (.int .u64 0)), (.k (.string ⟨#[]⟩))])), (.p (.g [(.k (.int .i64 0)), (.k (.int .i64 0)), (.k (.int .i64 1)), (.k (.int .i64 32)), (.k (.int .u64 720575944674246656)), (.k (.int .u64 0)), (.k (.string ⟨#[]⟩)), (.k (.int .i64 0)), (.k (.int .i64 0)), (.k (.int .u64 0)), (.k (.int .u64 0)), (.k (.string ⟨#[]⟩))]))], (.p (.o (.k (.bool true)))))
theorem big24_ok : Kn Tryz.prog g0 407 big24.1 big24.2 := kn_run (runD_ok orc3_ok 40) (by kernel_rfl) (by kernel_rfl)
noncomputable def big25 : List CV × CV := ([(.p (.g [(.k (.int .i64 1)), (.k (.int .i64 1)), (.k (.int .i64 1)), (.k (.int .i64 8)), (.k (.int .i64 0)), (.k (.int .i64 0)), (.k (.int .i64 0))])), (.p (.g [(.k (.int .i64 2)), (.k (.int .i64 0)), (.k (.int .i64 1)), (.k (.int .i64 16)), (.k (.int .u64 720575940379279360)), (.k (.int .u64 0)), (.k (.string ⟨#[]⟩)), (.k (.int .i64 0)), (.k (.int .i64 0)), (.k (.int .u64 0)), (.k (.int .u64 0)), (.k (.string ⟨#[]⟩))])), (.p (.g [(.k (.int .i64 0)), (.k (.int .i64 0)), (.k (.int .i64 1)), (.k (.int .i64 32)), (.k (.int .u64 720575944674246656)), (.k (.int .u64 0)), (.k (.string ⟨#[]⟩)), (.k (.int .i64 0)), (.k (.int .i64 0)), (.k (.int .u64 0)), (.k (.int .u64 0)), (.k (.string ⟨#[]⟩))]))], (.p (.o (.k (.bool true)))))
theorem big25_ok : Kn Tryz.prog g0 407 big25.1 big25.2 := kn_run (runD_ok orc3_ok 40) (by kernel_rfl) (by kernel_rfl)
noncomputable def big26 : List CV × CV := ([(.p (.g [(.k (.int .i64 1)), (.k (.int .i64 1)), (.k (.int .i64 1)), (.k (.int .i64 8)), (.k (.int .i64 0)), (.k (.int .i64 0)), (.k (.int .i64 0))])), (.p (.g [(.k (.int .i64 1)), (.k (.int .i64 0)), (.k (.int .i64 1)), (.k (.int .i64 24)), (.k (.int .u64 720575940379279360)), (.k (.int .u64 0)), (.k (.string ⟨#[]⟩)), (.k (.int .i64 0)), (.k (.int .i64 0)), (.k (.int .u64 0)), (.k (.int .u64 0)), (.k (.string ⟨#[]⟩))])), (.p (.g [(.k (.int .i64 0)), (.k (.int .i64 0)), (.k (.int .i64 1)), (.k (.int .i64 32)), (.k (.int .u64 720575944674246656)), (.k (.int .u64 0)), (.k (.string ⟨#[]⟩)), (.k (.int .i64 0)), (.k (.int .i64 0)), (.k (.int .u64 0)), (.k (.int .u64 0)), (.k (.string ⟨#[]⟩))]))], (.p (.o (.k (.bool true)))))
theorem big26_ok : Kn Tryz.prog g0 407 big26.1 big26.2 := kn_run (runD_ok orc3_ok 40) (by kernel_rfl) (by kernel_rfl)
noncomputable def big27 : List CV × CV := ([(.p (.o (.k (.slice none 0 0))))], (.p (.g [(.k (.int .u64 0)), (.k (.int .u64 0))])))
theorem big27_ok : Kn Tryz.prog g0 322 big27.1 big27.2 := kn_run (runD_ok orc3_ok 40) (by kernel_rfl) (by kernel_rfl)
noncomputable def big28 : List CV × CV := ([(.p (.o (.k (.string ⟨#[114, 101, 112, 111, 114, 116, 32, 48, 32, 112, 108, 97, 105, 110]⟩)))), (.p (.o (.k (.string ⟨#[10]⟩))))], (.p (.o (.k (.bool false)))))
theorem big28_ok : Kn Tryz.prog g0 28 big28.1 big28.2 := kn_run (runD_ok orc3_ok 40) (by kernel_rfl) (by kernel_rfl)
noncomputable def big29 : List CV × CV := ([(.p (.o (.k (.string ⟨#[109, 97, 107, 101, 32, 48, 32, 115, 97, 118, 105, 110, 103, 32, 49, 48, 32, 49, 47, 52, 32, 98, 121, 116, 101, 115, 32, 118, 52, 58, 115, 114, 99, 58, 56]⟩)))), (.p (.o (.k (.string ⟨#[10]⟩))))], (.p (.o (.k (.bool false)))))
theorem big29_ok : Kn Tryz.prog g0 28 big29.1 big29.2 := kn_run (runD_ok orc3_ok 40) (by kernel_rfl) (by kernel_rfl)
noncomputable def big30 : List CV × CV := ([(.p (.o (.k (.string ⟨#[105, 110, 103, 101, 115, 116, 32, 48, 32, 108, 105, 110, 101, 115, 32, 115, 114, 99, 61, 49, 48, 46, 48, 46, 48, 46, 49, 32, 112, 97, 99, 107, 101, 116, 115, 61, 49, 32, 98, 121, 116, 101, 115, 61, 53, 48, 48]⟩)))), (.p (.o (.k (.string ⟨#[10]⟩))))], (.p (.o (.k (.bool false)))))
theorem big30_ok : Kn Tryz.prog g0 28 big30.1 big30.2 := kn_run (runD_ok orc3_ok 40) (by kernel_rfl) (by kernel_rfl)
noncomputable def big31 : List CV × CV := ([(.p (.o (.k (.string ⟨#[100, 114, 111, 112, 32, 49]⟩)))), (.p (.o (.k (.string ⟨#[10]⟩))))], (.p (.o (.k (.bool false)))))
theorem big31_ok : Kn Tryz.prog g0 28 big31.1 big31.2 := kn_run (runD_ok orc3_ok 40) (by kernel_rfl) (by kernel_rfl)
noncomputable def big32 : List CV × CV := ([(.p (.g [(.k (.int .i64 1)), (.k (.int .i64 32)), (.k (.int .u64 720575944674246656)), (.k (.int .u64 0)), (.k (.string ⟨#[]⟩))]))], (.p (.o (.k (.bool true)))))
theorem big32_ok : Kn Tryz.prog g0 289 big32.1 big32.2 := kn_run (runD_ok orc3_ok 40) (by kernel_rfl) (by kernel_rfl)
noncomputable def big33 : List CV × CV := ([(.p (.g [(.k (.int .i64 0)), (.k (.int .i64 0)), (.k (.int .u64 0)), (.k (.int .u64 0)), (.k (.string ⟨#[]⟩))]))], (.p (.o (.k (.bool true)))))
theorem big33_ok : Kn Tryz.prog g0 289 big33.1 big33.2 := kn_run (runD_ok orc3_ok 40) (by kernel_rfl) (by kernel_rfl)
noncomputable def big34 : List CV × CV := ([(.p (.o (.k (.string ⟨#[49, 48, 46, 48, 46, 48, 46, 49]⟩))))], (.t [(.o (.k (.int .u32 167772161))), (.o (.k (.int .i64 0)))]))
theorem big34_ok : Kn Tryz.prog g0 273 big34.1 big34.2 := kn_run (runD_ok orc3_ok 40) (by kernel_rfl) (by kernel_rfl)
noncomputable def big35 : List CV × CV := ([(.p (.o (.k (.string ⟨#[49, 47, 52]⟩)))), (.p (.o (.k (.string ⟨#[47]⟩))))], (.t [(.o (.k (.string ⟨#[49]⟩))), (.o (.k (.string ⟨#[52]⟩))), (.o (.k (.bool true)))]))
theorem big35_ok : Kn Tryz.prog g0 25 big35.1 big35.2 := kn_run (runD_ok orc3_ok 40) (by kernel_rfl) (by kernel_rfl)
noncomputable def big36 : List CV × CV := ([(.p (.o (.k (.string ⟨#[48, 32, 115, 97, 118, 105, 110, 103, 32, 49, 48, 32, 49, 47, 52, 32, 98, 121, 116, 101, 115, 32, 118, 52, 58, 115, 114, 99, 58, 56]⟩)))), (.p (.o (.k (.string ⟨#[32]⟩))))], (.t [(.o (.k (.string ⟨#[48]⟩))), (.o (.k (.string ⟨#[115, 97, 118, 105, 110, 103, 32, 49, 48, 32, 49, 47, 52, 32, 98, 121, 116, 101, 115, 32, 118, 52, 58, 115, 114, 99, 58, 56]⟩))), (.o (.k (.bool true)))]))
theorem big36_ok : Kn Tryz.prog g0 25 big36.1 big36.2 := kn_run (runD_ok orc3_ok 40) (by kernel_rfl) (by kernel_rfl)
noncomputable def big37 : List CV × CV := ([(.p (.o (.k (.string ⟨#[48, 32, 112, 108, 97, 105, 110]⟩)))), (.p (.o (.k (.string ⟨#[32]⟩))))], (.t [(.o (.k (.string ⟨#[48]⟩))), (.o (.k (.string ⟨#[112, 108, 97, 105, 110]⟩))), (.o (.k (.bool true)))]))
theorem big37_ok : Kn Tryz.prog g0 25 big37.1 big37.2 := kn_run (runD_ok orc3_ok 40) (by kernel_rfl) (by kernel_rfl)
noncomputable def big38 : List CV × CV := ([(.p (.o (.k (.string ⟨#[48, 32, 108, 105, 110, 101, 115, 32, 115, 114, 99, 61, 49, 48, 46, 48, 46, 48, 46, 49, 32, 112, 97, 99, 107, 101, 116, 115, 61, 49, 32, 98, 121, 116, 101, 115, 61, 53, 48, 48]⟩)))), (.p (.o (.k (.string ⟨#[32]⟩))))], (.t [(.o (.k (.string ⟨#[48]⟩))), (.o (.k (.string ⟨#[108, 105, 110, 101, 115, 32, 115, 114, 99, 61, 49, 48, 46, 48, 46, 48, 46, 49, 32, 112, 97, 99, 107, 101, 116, 115, 61, 49, 32, 98, 121, 116, 101, 115, 61, 53, 48, 48]⟩))), (.o (.k (.bool true)))]))
theorem big38_ok : Kn Tryz.prog g0 25 big38.1 big38.2 := kn_run (runD_ok orc3_ok 40) (by kernel_rfl) (by kernel_rfl)
noncomputable def big39 : List CV × CV := ([(.p (.o (.k (.string ⟨#[115, 97, 118, 105, 110, 103]⟩)))), (.p (.o (.k (.string ⟨#[58]⟩))))], (.t [(.o (.k (.string ⟨#[115, 97, 118, 105, 110, 103]⟩))), (.o (.k (.string ⟨#[]⟩))), (.o (.k (.bool false)))]))
theorem big39_ok : Kn Tryz.prog g0 25 big39.1 big39.2 := kn_run (runD_ok orc3_ok 40) (by kernel_rfl) (by kernel_rfl)
noncomputable def big40 : List CV × CV := ([(.p (.o (.k (.string ⟨#[114, 101, 112, 111, 114, 116, 32, 48, 32, 112, 108, 97, 105, 110]⟩)))), (.p (.o (.k (.string ⟨#[32]⟩))))], (.t [(.o (.k (.string ⟨#[114, 101, 112, 111, 114, 116]⟩))), (.o (.k (.string ⟨#[48, 32, 112, 108, 97, 105, 110]⟩))), (.o (.k (.bool true)))]))
theorem big40_ok : Kn Tryz.prog g0 25 big40.1 big40.2 := kn_run (runD_ok orc3_ok 40) (by kernel_rfl) (by kernel_rfl)
noncomputable def big41 : List CV × CV := ([(.p (.o (.k (.string ⟨#[109, 97, 107, 101, 32, 48, 32, 115, 97, 118, 105, 110, 103, 32, 49, 48, 32, 49, 47, 52, 32, 98, 121, 116, 101, 115, 32, 118, 52, 58, 115, 114, 99, 58, 56]⟩)))), (.p (.o (.k (.string ⟨#[32]⟩))))], (.t [(.o (.k (.string ⟨#[109, 97, 107, 101]⟩))), (.o (.k (.string ⟨#[48, 32, 115, 97, 118, 105, 110, 103, 32, 49, 48, 32, 49, 47, 52, 32, 98, 121, 116, 101, 115, 32, 118, 52, 58, 115, 114, 99, 58, 56]⟩))), (.o (.k (.bool true)))]))
theorem big41_ok : Kn Tryz.prog g0 25 big41.1 big41.2 := kn_run (runD_ok orc3_ok 40) (by kernel_rfl) (by kernel_rfl)
noncomputable def big42 : List CV × CV := ([(.p (.o (.k (.string ⟨#[108, 105, 110, 101, 115, 32, 115, 114, 99, 61, 49, 48, 46, 48, 46, 48, 46, 49, 32, 112, 97, 99, 107, 101, 116, 115, 61, 49, 32, 98, 121, 116, 101, 115, 61, 53, 48, 48]⟩)))), (.p (.o (.k (.string ⟨#[32]⟩))))], (.t [(.o (.k (.string ⟨#[108, 105, 110, 101, 115]⟩))), (.o (.k (.string ⟨#[115, 114, 99, 61, 49, 48, 46, 48, 46, 48, 46, 49, 32, 112, 97, 99, 107, 101, 116, 115, 61, 49, 32, 98, 121, 116, 101, 115, 61, 53, 48, 48]⟩))), (.o (.k (.bool true)))]))
theorem big42_ok : Kn Tryz.prog g0 25 big42.1 big42.2 := kn_run (runD_ok orc3_ok 40) (by kernel_rfl) (by kernel_rfl)
noncomputable def big43 : List CV × CV := ([(.p (.o (.k (.string ⟨#[105, 110, 103, 101, 115, 116, 32, 48, 32, 108, 105, 110, 101, 115, 32, 115, 114, 99, 61, 49, 48, 46, 48, 46, 48, 46, 49, 32, 112, 97, 99, 107, 101, 116, 115, 61, 49, 32, 98, 121, 116, 101, 115, 61, 53, 48, 48]⟩)))), (.p (.o (.k (.string ⟨#[32]⟩))))], (.t [(.o (.k (.string ⟨#[105, 110, 103, 101, 115, 116]⟩))), (.o (.k (.string ⟨#[48, 32, 108, 105, 110, 101, 115, 32, 115, 114, 99, 61, 49, 48, 46, 48, 46, 48, 46, 49, 32, 112, 97, 99, 107, 101, 116, 115, 61, 49, 32, 98, 121, 116, 101, 115, 61, 53, 48, 48]⟩))), (.o (.k (.bool true)))]))
theorem big43_ok : Kn Tryz.prog g0 25 big43.1 big43.2 := kn_run (runD_ok orc3_ok 40) (by kernel_rfl) (by kernel_rfl)
noncomputable def big44 : List CV × CV := ([(.p (.o (.k (.string ⟨#[102, 108, 121, 32, 49]⟩)))), (.p (.o (.k (.string ⟨#[32]⟩))))], (.t [(.o (.k (.string ⟨#[102, 108, 121]⟩))), (.o (.k (.string ⟨#[49]⟩))), (.o (.k (.bool true)))]))
theorem big44_ok : Kn Tryz.prog g0 25 big44.1 big44.2 := kn_run (runD_ok orc3_ok 40) (by kernel_rfl) (by kernel_rfl)
noncomputable def big45 : List CV × CV := ([(.p (.o (.k (.string ⟨#[100, 114, 111, 112, 32, 49]⟩)))), (.p (.o (.k (.string ⟨#[32]⟩))))], (.t [(.o (.k (.string ⟨#[100, 114, 111, 112]⟩))), (.o (.k (.string ⟨#[49]⟩))), (.o (.k (.bool true)))]))
theorem big45_ok : Kn Tryz.prog g0 25 big45.1 big45.2 := kn_run (runD_ok orc3_ok 40) (by kernel_rfl) (by kernel_rfl)
noncomputable def big46 : List CV × CV := ([(.p (.o (.k (.string ⟨#[98, 121, 116, 101, 115, 61, 53, 48, 48]⟩)))), (.p (.o (.k (.string ⟨#[98, 121, 116, 101, 115, 61]⟩))))], (.t [(.o (.k (.string ⟨#[53, 48, 48]⟩))), (.o (.k (.bool true)))]))
theorem big46_ok : Kn Tryz.prog g0 24 big46.1 big46.2 := kn_run (runD_ok orc3_ok 40) (by kernel_rfl) (by kernel_rfl)
noncomputable def big47 : List CV × CV := ([(.p (.o (.k (.string ⟨#[33, 100, 114, 111, 112, 32, 49]⟩)))), (.p (.o (.k (.string ⟨#[33]⟩))))], (.t [(.o (.k (.string ⟨#[100, 114, 111, 112, 32, 49]⟩))), (.o (.k (.bool true)))]))
theorem big47_ok : Kn Tryz.prog g0 24 big47.1 big47.2 := kn_run (runD_ok orc3_ok 40) (by kernel_rfl) (by kernel_rfl)
noncomputable def big48 : List CV × CV := ([(.p (.o (.k (.string ⟨#[115, 114, 99, 61, 49, 48, 46, 48, 46, 48, 46, 49]⟩)))), (.p (.o (.k (.string ⟨#[115, 114, 99, 61]⟩))))], (.t [(.o (.k (.string ⟨#[49, 48, 46, 48, 46, 48, 46, 49]⟩))), (.o (.k (.bool true)))]))
theorem big48_ok : Kn Tryz.prog g0 24 big48.1 big48.2 := kn_run (runD_ok orc3_ok 40) (by kernel_rfl) (by kernel_rfl)
noncomputable def big49 : List CV × CV := ([(.p (.o (.k (.string ⟨#[114, 101, 112, 111, 114, 116, 32, 48, 32, 112, 108, 97, 105, 110]⟩)))), (.p (.o (.k (.string ⟨#[33]⟩))))], (.t [(.o (.k (.string ⟨#[114, 101, 112, 111, 114, 116, 32, 48, 32, 112, 108, 97, 105, 110]⟩))), (.o (.k (.bool false)))]))
theorem big49_ok : Kn Tryz.prog g0 24 big49.1 big49.2 := kn_run (runD_ok orc3_ok 40) (by kernel_rfl) (by kernel_rfl)
noncomputable def big50 : List CV × CV := ([(.p (.o (.k (.string ⟨#[112, 97, 99, 107, 101, 116, 115, 61, 49]⟩)))), (.p (.o (.k (.string ⟨#[116, 111, 61]⟩))))], (.t [(.o (.k (.string ⟨#[112, 97, 99, 107, 101, 116, 115, 61, 49]⟩))), (.o (.k (.bool false)))]))
theorem big50_ok : Kn Tryz.prog g0 24 big50.1 big50.2 := kn_run (runD_ok orc3_ok 40) (by kernel_rfl) (by kernel_rfl)
noncomputable def big51 : List CV × CV := ([(.p (.o (.k (.string ⟨#[112, 97, 99, 107, 101, 116, 115, 61, 49]⟩)))), (.p (.o (.k (.string ⟨#[112, 97, 99, 107, 101, 116, 115, 61]⟩))))], (.t [(.o (.k (.string ⟨#[49]⟩))), (.o (.k (.bool true)))]))
theorem big51_ok : Kn Tryz.prog g0 24 big51.1 big51.2 := kn_run (runD_ok orc3_ok 40) (by kernel_rfl) (by kernel_rfl)
noncomputable def big52 : List CV × CV := ([(.p (.o (.k (.string ⟨#[112, 97, 99, 107, 101, 116, 115, 61, 49]⟩)))), (.p (.o (.k (.string ⟨#[102, 114, 111, 109, 61]⟩))))], (.t [(.o (.k (.string ⟨#[112, 97, 99, 107, 101, 116, 115, 61, 49]⟩))), (.o (.k (.bool false)))]))
theorem big52_ok : Kn Tryz.prog g0 24 big52.1 big52.2 := kn_run (runD_ok orc3_ok 40) (by kernel_rfl) (by kernel_rfl)
noncomputable def big53 : List CV × CV := ([(.p (.o (.k (.string ⟨#[112, 97, 99, 107, 101, 116, 115, 61, 49]⟩)))), (.p (.o (.k (.string ⟨#[100, 115, 116, 61]⟩))))], (.t [(.o (.k (.string ⟨#[112, 97, 99, 107, 101, 116, 115, 61, 49]⟩))), (.o (.k (.bool false)))]))
theorem big53_ok : Kn Tryz.prog g0 24 big53.1 big53.2 := kn_run (runD_ok orc3_ok 40) (by kernel_rfl) (by kernel_rfl)
noncomputable def big54 : List CV × CV := ([(.p (.o (.k (.string ⟨#[109, 97, 107, 101, 32, 48, 32, 115, 97, 118, 105, 110, 103, 32, 49, 48, 32, 49, 47, 52, 32, 98, 121, 116, 101, 115, 32, 118, 52, 58, 115, 114, 99, 58, 56]⟩)))), (.p (.o (.k (.string ⟨#[33]⟩))))], (.t [(.o (.k (.string ⟨#[109, 97, 107, 101, 32, 48, 32, 115, 97, 118, 105, 110, 103, 32, 49, 48, 32, 49, 47, 52, 32, 98, 121, 116, 101, 115, 32, 118, 52, 58, 115, 114, 99, 58, 56]⟩))), (.o (.k (.bool false)))]))
theorem big54_ok : Kn Tryz.prog g0 24 big54.1 big54.2 := kn_run (runD_ok orc3_ok 40) (by kernel_rfl) (by kernel_rfl)
noncomputable def big55 : List CV × CV := ([(.p (.o (.k (.string ⟨#[105, 110, 103, 101, 115, 116, 32, 48, 32, 108, 105, 110, 101, 115, 32, 115, 114, 99, 61, 49, 48, 46, 48, 46, 48, 46, 49, 32, 112, 97, 99, 107, 101, 116, 115, 61, 49, 32, 98, 121, 116, 101, 115, 61, 53, 48, 48]⟩)))), (.p (.o (.k (.string ⟨#[33]⟩))))], (.t [(.o (.k (.string ⟨#[105, 110, 103, 101, 115, 116, 32, 48, 32, 108, 105, 110, 101, 115, 32, 115, 114, 99, 61, 49, 48, 46, 48, 46, 48, 46, 49, 32, 112, 97, 99, 107, 101, 116, 115, 61, 49, 32, 98, 121, 116, 101, 115, 61, 53, 48, 48]⟩))), (.o (.k (.bool false)))]))
theorem big55_ok : Kn Tryz.prog g0 24 big55.1 big55.2 := kn_run (runD_ok orc3_ok 40) (by kernel_rfl) (by kernel_rfl)
noncomputable def big56 : List CV × CV := ([(.p (.o (.k (.string ⟨#[102, 108, 121, 32, 49]⟩)))), (.p (.o (.k (.string ⟨#[33]⟩))))], (.t [(.o (.k (.string ⟨#[102, 108, 121, 32, 49]⟩))), (.o (.k (.bool false)))]))
theorem big56_ok : Kn Tryz.prog g0 24 big56.1 big56.2 := kn_run (runD_ok orc3_ok 40) (by kernel_rfl) (by kernel_rfl)
noncomputable def big57 : List CV × CV := ([(.p (.g [(.k (.int .i64 1)), (.k (.int .i64 32)), (.k (.int .u64 720575944674246656)), (.k (.int .u64 0)), (.k (.string ⟨#[]⟩)), (.k (.int .i64 0)), (.k (.int .i64 0)), (.k (.int .u64 0)), (.k (.int .u64 0)), (.k (.string ⟨#[]⟩)), (.k (.int .i64 0)), (.k (.int .i64 0)), (.k (.int .u64 0)), (.k (.int .u64 0)), (.k (.string ⟨#[]⟩)), (.k (.int .i64 0)), (.k (.int .i64 0)), (.k (.int .u64 0)), (.k (.int .u64 0)), (.k (.string ⟨#[]⟩)), (.k (.int .u64 1)), (.k (.int .u64 500))]))], (.p (.o (.k (.bool true)))))
theorem big57_ok : Kn Tryz.prog g0 232 big57.1 big57.2 := kn_run (runD_ok orc3_ok 40) (by kernel_rfl) (by kernel_rfl)
noncomputable def big58 : List CV × CV := ([(.p (.g [(.k (.int .i64 4)), (.k (.int .i64 0)), (.k (.int .i64 1)), (.k (.int .i64 0)), (.k (.int .u64 0)), (.k (.int .u64 0)), (.k (.string ⟨#[]⟩)), (.k (.int .i64 0)), (.k (.int .i64 0)), (.k (.int .u64 0)), (.k (.int .u64 0)), (.k (.string ⟨#[]⟩))])), (.p (.g [(.k (.int .i64 3)), (.k (.int .i64 0)), (.k (.int .i64 1)), (.k (.int .i64 8)), (.k (.int .u64 720575940379279360)), (.k (.int .u64 0)), (.k (.string ⟨#[]⟩)), (.k (.int .i64 0)), (.k (.int .i64 0)), (.k (.int .u64 0)), (.k (.int .u64 0)), (.k (.string ⟨#[]⟩))]))], (.p (.o (.k (.int .i64 1)))))
theorem big58_ok : Kn Tryz.prog g0 229 big58.1 big58.2 := kn_run (runD_ok orc3_ok 40) (by kernel_rfl) (by kernel_rfl)
noncomputable def big59 : List CV × CV := ([(.p (.g [(.k (.int .i64 3)), (.k (.int .i64 0)), (.k (.int .i64 1)), (.k (.int .i64 8)), (.k (.int .u64 720575940379279360)), (.k (.int .u64 0)), (.k (.string ⟨#[]⟩)), (.k (.int .i64 0)), (.k (.int .i64 0)), (.k (.int .u64 0)), (.k (.int .u64 0)), (.k (.string ⟨#[]⟩))])), (.p (.g [(.k (.int .i64 2)), (.k (.int .i64 0)), (.k (.int .i64 1)), (.k (.int .i64 16)), (.k (.int .u64 720575940379279360)), (.k (.int .u64 0)), (.k (.string ⟨#[]⟩)), (.k (.int .i64 0)), (.k (.int .i64 0)), (.k (.int .u64 0)), (.k (.int .u64 0)), (.k (.string ⟨#[]⟩))]))], (.p (.o (.k (.int .i64 1)))))
theorem big59_ok : Kn Tryz.prog g0 229 big59.1 big59.2 := kn_run (runD_ok orc3_ok 40) (by kernel_rfl) (by kernel_rfl)
noncomputable def big60 : List CV × CV := ([(.p (.g [(.k (.int .i64 2)), (.k (.int .i64 0)), (.k (.int .i64 1)), (.k (.int .i64 16)), (.k (.int .u64 720575940379279360)), (.k (.int .u64 0)), (.k (.string ⟨#[]⟩)), (.k (.int .i64 0)), (.k (.int .i64 0)), (.k (.int .u64 0)), (.k (.int .u64 0)), (.k (.string ⟨#[]⟩))])), (.p (.g [(.k (.int .i64 1)), (.k (.int .i64 0)), (.k (.int .i64 1)), (.k (.int .i64 24)), (.k (.int .u64 720575940379279360)), (.k (.int .u64 0)), (.k (.string ⟨#[]⟩)), (.k (.int .i64 0)), (.k (.int .i64 0)), (.k (.int .u64 0)), (.k (.int .u64 0)), (.k (.string ⟨#[]⟩))]))], (.p (.o (.k (.int .i64 1)))))
theorem big60_ok : Kn Tryz.prog g0 229 big60.1 big60.2 := kn_run (runD_ok orc3_ok 40) (by kernel_rfl) (by kernel_rfl)
noncomputable def big61 : List CV × CV := ([(.p (.g [(.k (.int .i64 1)), (.k (.int .i64 0)), (.k (.int .i64 1)), (.k (.int .i64 24)), (.k (.int .u64 720575940379279360)), (.k (.int .u64 0)), (.k (.string ⟨#[]⟩)), (.k (.int .i64 0)), (.k (.int .i64 0)), (.k (.int .u64 0)), (.k (.int .u64 0)), (.k (.string ⟨#[]⟩))])), (.p (.g [(.k (.int .i64 0)), (.k (.int .i64 0)), (.k (.int .i64 1)), (.k (.int .i64 32)), (.k (.int .u64 720575944674246656)), (.k (.int .u64 0)), (.k (.string ⟨#[]⟩)), (.k (.int .i64 0)), (.k (.int .i64 0)), (.k (.int .u64 0)), (.k (.int .u64 0)), (.k (.string ⟨#[]⟩))]))], (.p (.o (.k (.int .i64 1)))))
theorem big61_ok : Kn Tryz.prog g0 229 big61.1 big61.2 := kn_run (runD_ok orc3_ok 40) (by kernel_rfl) (by kernel_rfl)
noncomputable def big62 : List CV × CV := ([(.p (.g [(.k (.int .i64 1)), (.k (.int .i64 1)), (.k (.int .i64 1)), (.k (.int .i64 8)), (.k (.int .i64 0)), (.k (.int .i64 0)), (.k (.int .i64 0))])), (.p (.g [(.k (.int .i64 0)), (.k (.int .i64 0)), (.k (.int .i64 1)), (.k (.int .i64 32)), (.k (.int .u64 720575944674246656)), (.k (.int .u64 0)), (.k (.string ⟨#[]⟩)), (.k (.int .i64 0)), (.k (.int .i64 0)), (.k (.int .u64 0)), (.k (.int .u64 0)), (.k (.string ⟨#[]⟩))]))], (.p (.o (.k (.string ⟨#[49, 48, 46, 48, 46, 48, 46, 49, 47, 51, 50]⟩)))))
theorem big62_ok : Kn Tryz.prog g0 216 big62.1 big62.2 := kn_run (runD_ok orc3_ok 40) (by kernel_rfl) (by kernel_rfl)
noncomputable def big63 : List CV × CV := ([(.p (.o (.k (.string ⟨#[115, 97, 118, 105, 110, 103, 32, 49, 48, 32, 49, 47, 52, 32, 98, 121, 116, 101, 115, 32, 118, 52, 58, 115, 114, 99, 58, 56]⟩))))], (.t [(.g [(.k (.int .i64 1)), (.k (.int .i64 10)), (.k (.int .i64 0)), (.k (.int .i64 1)), (.k (.int .i64 1)), (.k (.int .i64 1)), (.k (.int .i64 8)), (.k (.int .i64 0)), (.k (.int .i64 0)), (.k (.int .i64 0)), (.k (.int .i64 3)), (.k (.int .i64 1)), (.k (.int .i64 4))]), (.o (.k (.int .i64 0)))]))
theorem big63_ok : Kn Tryz.prog g0 129 big63.1 big63.2 := kn_run (runD_ok orc3_ok 40) (by kernel_rfl) (by kernel_rfl)
noncomputable def tab3 : Tab := [(54, [big0, big2, big15, big16]), (178, [big1]), (47, [big3, big17, big18, big19, big20, big21, big22]), (25, [big4, big35, big36, big37, big38, big39, big40, big41, big42, big43, big44, big45]), (152, [big5]), (9, [big6, big7, big8, big9]), (84, [big10]), (75, [big11, big12, big13]), (6, [big14]), (407, [big23, big24, big25, big26]), (322, [big27]), (28, [big28, big29, big30, big31]), (289, [big32, big33]), (273, [big34]), (24, [big46, big47, big48, big49, big50, big51, big52, big53, big54, big55, big56]), (232, [big57]), (229, [big58, big59, big60, big61]), (216, [big62]), (129, [big63])]
theorem tab3_ok : TabOk Tryz.prog g0 tab3 := fun f l hl q hq => by
  simp only [tab3, List.mem_cons, List.not_mem_nil, or_false, Prod.mk.injEq] at hl
  rcases hl with ⟨rfl, rfl⟩ | ⟨rfl, rfl⟩ | ⟨rfl, rfl⟩ | ⟨rfl, rfl⟩ | ⟨rfl, rfl⟩ | ⟨rfl, rfl⟩ | ⟨rfl, rfl⟩ | ⟨rfl, rfl⟩ | ⟨rfl, rfl⟩ | ⟨rfl, rfl⟩ | ⟨rfl, rfl⟩ | ⟨rfl, rfl⟩ | ⟨rfl, rfl⟩ | ⟨rfl, rfl⟩ | ⟨rfl, rfl⟩ | ⟨rfl, rfl⟩ | ⟨rfl, rfl⟩ | ⟨rfl, rfl⟩ | ⟨rfl, rfl⟩
  · simp only [List.mem_cons, List.not_mem_nil, or_false] at hq
    rcases hq with rfl | rfl | rfl | rfl
    · exact big0_ok
    · exact big2_ok
    · exact big15_ok
    · exact big16_ok
  · simp only [List.mem_cons, List.not_mem_nil, or_false] at hq
    rcases hq with rfl
    · exact big1_ok
  · simp only [List.mem_cons, List.not_mem_nil, or_false] at hq
    rcases hq with rfl | rfl | rfl | rfl | rfl | rfl | rfl
    · exact big3_ok
    · exact big17_ok
    · exact big18_ok
    · exact big19_ok
    · exact big20_ok
    · exact big21_ok
    · exact big22_ok
  · simp only [List.mem_cons, List.not_mem_nil, or_false] at hq
    rcases hq with rfl | rfl | rfl | rfl | rfl | rfl | rfl | rfl | rfl | rfl | rfl | rfl
    · exact big4_ok
    · exact big35_ok
    · exact big36_ok
    · exact big37_ok
    · exact big38_ok
    · exact big39_ok
    · exact big40_ok
    · exact big41_ok
    · exact big42_ok
    · exact big43_ok
    · exact big44_ok
    · exact big45_ok
  · simp only [List.mem_cons, List.not_mem_nil, or_false] at hq
    rcases hq with rfl
    · exact big5_ok
  · simp only [List.mem_cons, List.not_mem_nil, or_false] at hq
    rcases hq with rfl | rfl | rfl | rfl
    · exact big6_ok
    · exact big7_ok
    · exact big8_ok
    · exact big9_ok
  · simp only [List.mem_cons, List.not_mem_nil, or_false] at hq
    rcases hq with rfl
    · exact big10_ok
  · simp only [List.mem_cons, List.not_mem_nil, or_false] at hq
    rcases hq with rfl | rfl | rfl
    · exact big11_ok
    · exact big12_ok
    · exact big13_ok
  · simp only [List.mem_cons, List.not_mem_nil, or_false] at hq
    rcases hq with rfl
    · exact big14_ok
  · simp only [List.mem_cons, List.not_mem_nil, or_false] at hq
    rcases hq with rfl | rfl | rfl | rfl
    · exact big23_ok
    · exact big24_ok
    · exact big25_ok
    · exact big26_ok
  · simp only [List.mem_cons, List.not_mem_nil, or_false] at hq
    rcases hq with rfl
    · exact big27_ok
  · simp only [List.mem_cons, List.not_mem_nil, or_false] at hq
    rcases hq with rfl | rfl | rfl | rfl
    · exact big28_ok
    · exact big29_ok
    · exact big30_ok
    · exact big31_ok
  · simp only [List.mem_cons, List.not_mem_nil, or_false] at hq
    rcases hq with rfl | rfl
    · exact big32_ok
    · exact big33_ok
  · simp only [List.mem_cons, List.not_mem_nil, or_false] at hq
    rcases hq with rfl
    · exact big34_ok
  · simp only [List.mem_cons, List.not_mem_nil, or_false] at hq
    rcases hq with rfl | rfl | rfl | rfl | rfl | rfl | rfl | rfl | rfl | rfl | rfl
    · exact big46_ok
    · exact big47_ok
    · exact big48_ok
    · exact big49_ok
    · exact big50_ok
    · exact big51_ok
    · exact big52_ok
    · exact big53_ok
    · exact big54_ok
    · exact big55_ok
    · exact big56_ok
  · simp only [List.mem_cons, List.not_mem_nil, or_false] at hq
    rcases hq with rfl
    · exact big57_ok
  · simp only [List.mem_cons, List.not_mem_nil, or_false] at hq
    rcases hq with rfl | rfl | rfl | rfl
    · exact big58_ok
    · exact big59_ok
    · exact big60_ok
    · exact big61_ok
  · simp only [List.mem_cons, List.not_mem_nil, or_false] at hq
    rcases hq with rfl
    · exact big62_ok
  · simp only [List.mem_cons, List.not_mem_nil, or_false] at hq
    rcases hq with rfl
    · exact big63_ok
end Go.Proofs.YtmhmlneobbgadaaGreatDoor.Ev
