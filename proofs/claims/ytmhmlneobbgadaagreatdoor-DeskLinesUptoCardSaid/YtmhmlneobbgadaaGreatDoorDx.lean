/- The desk's run: alive returns true, whatever the world. -/
import Derived.Test.YtmhmlneobbgadaaGreatDoorDw
import Derived.Test.YtmhmlneobbgadaaGreatDoorDv
import Derived.Test.YtmhmlneobbgadaaGreatDoorDy
set_option maxRecDepth 100000
namespace Go.Proofs.YtmhmlneobbgadaaGreatDoor.Ev
open Go Go.RowKit Go.Vc Go.Xv

noncomputable def tabL : Tab := [(238, [([.p (.o (.k (.string line0)))], .t [.g rec1, .o (.k (.int .i64 0))])]), (69, [([], .p (.g crcTab))])]
theorem tabL_ok : TabOk Tryz.prog g0 tabL := fun f l hl q hq => by
  simp only [tabL, List.mem_cons, List.not_mem_nil, or_false, Prod.mk.injEq] at hl
  rcases hl with ⟨rfl, rfl⟩ | ⟨rfl, rfl⟩
  · simp only [List.mem_cons, List.not_mem_nil, or_false] at hq
    subst hq
    exact line_ok
  · simp only [List.mem_cons, List.not_mem_nil, or_false] at hq
    subst hq
    exact crc_ok
noncomputable def orc4 : Orc := orcT tab1 (orcT tab2 (orcT tab3 (orcT tabN (orcT tabL orcB))))
theorem orc4_ok : OrcOk Tryz.prog g0 orc4 := orcT_ok tab1_ok (orcT_ok tab2_ok (orcT_ok tab3_ok (orcT_ok tabN_ok (orcT_ok tabL_ok orcB_ok))))
theorem alive_run : (match runD orc4 60 (.fn 8) [] [] with | some (d, _) => eqCV d (.p (.o (.k (.bool true)))) | none => false) = true := by kernel_rfl
theorem alive_ok : Kn Tryz.prog g0 8 [] (.p (.o (.k (.bool true)))) := kn_run (runD_ok orc4_ok 60) alive_run (by kernel_rfl)
theorem alive_gives (W : World) : Gives Tryz.prog 8 #[] W fun v W' => v = .bool true ∧ Below W.heap.size W W' :=
  (Kn.at alive_ok (vs := []) rfl W).mono fun _ _ ⟨h1, h2⟩ => ⟨(Option.some.inj h1).symm, h2⟩
end Go.Proofs.YtmhmlneobbgadaaGreatDoor.Ev
