/- SixRuns returns true for any eight groups, and what came in reads as it did. Its row and its tied card. Conditions: none beyond the statement's own. -/
import Derived.Test.YtpjophfcbaoiaaaDoorRows
import Derived.Test.YtpjophfcbaoiaaaDoorFm
import Derived.Test.YtpjophfcbaoiaaaDoorGt
import Derived.Test.YtpjophfcbaoiaaaDoorTie
import Derived.Test.YtpjophfcbaoiaaaDoorCards
import Derived.SevenTiedAt
namespace Go.Proofs.YtpjophfcbaoiaaaDoor.sixRuns
open Go.ChangeShapes Go.WideShapes Go.ChangeAt Go.RowKit Go.Vc Go.Proofs.YtpjophfcbaoiaaaDoor.Fo
open Go.ChangeMaps (open_string shut_string)
set_option maxRecDepth 100000 in
theorem lifted (os : Os) (started : os.Started) (H : Type) (enc : TypeId × Value → H) :
    ReturnsInHanded {} Tryd.checked os 9 .any (fun w args => (Rows.sixRunsSpec.pre enc Tryd.prog Tryd.f9 [] false w args ∧ laidMetH Tryd.prog laid w) ∧ sizedMet enc Tryd.prog Tryd.f9 (OpenSpec.ofChange Rows.sixRunsSpec) false w args)
      (Rows.sixRunsSpec.post enc Tryd.prog Tryd.f9 false true false false) := by
  refine returnsIn_laid_shaped (C := Tryd.checked) (X := fun w _ => laidMetH Tryd.prog laid w) (fun _ _ _ hh h => h.of_heap hh) own started (by kernel_rfl) Tryd.func9
    (ChangeSpec.witness_shaped (enc := enc) (C := Tryd.checked) (os := os) (X := fun w _ => laidMetH Tryd.prog laid w) false (World.laidAll Tryd.prog os laid) #[.agg #[.int .u16 0, .int .u16 0, .int .u16 0, .int .u16 0, .int .u16 0, .int .u16 0, .int .u16 0, .int .u16 0]] 8 (World.laidAll_os _ _ _)
      (start_shaped os _) (by kernel_rfl) (by kernel_rfl) (by kernel_rfl) (start_met os _)) ?_
  intro W base args ds gs before hval0 hW _ hsz0 hL hsh _
  have hv : Go.Proofs.YtpjophfcbaoiaaaDoor.Si.V6 W := Go.Proofs.YtpjophfcbaoiaaaDoor.Si.v6_of hsh hL
  have hval : ∀ (j : Nat) t v, Tryd.f9.params[j]? = some t → args[j]? = some v → Value.okWide Tryd.prog W .any base t v := hval0
  have hW' := hW
  obtain ⟨p, q, hA0, hV, rfl, hfz, hnd⟩ := hW
  have hA : DataW.TrodAll enc Tryd.prog W 0 (fun _ => true) true Tryd.f9.params.toList args.toList ds p := hA0
  rw [Tryd.params9] at hA hval
  obtain ⟨v0, vs0, d0, ds0, p0, q0, hargs, rfl, rfl, h0, r0⟩ := trodAll_cons hA
  obtain ⟨rfl, rfl, rfl⟩ := trodAll_nil r0
  obtain rfl : args = #[v0] := by cases args; simp_all
  obtain ⟨rfl, rfl⟩ := trodVars_none hV
  have k0 := h0
  have lt0 : ∀ x ∈ p0, x.block < W.heap.size := by obtain ⟨m, hm⟩ := k0; exact DataW.trod_lt m _ _ _ hm
  obtain ⟨a0, rfl, w0⟩ := open_agg (by rw [show aggSize Tryd.prog 42 = _ from rfl]; exact fun h => by cases h) (hval 0 42 v0 rfl rfl) (by kernel_rfl) Go.Proofs.YtpjophfcbaoiaaaDoor.Si.dec_groups h0
  clear hA0 hval0 hsz0
  refine Calls.mono (Go.Proofs.YtpjophfcbaoiaaaDoor.Si.runs_law hv w0.1) fun e W' hh => ?_
  obtain ⟨_, he, rfl, bel⟩ := hh
  subst he
  exact ⟨_, rfl, _, _, _, [], _, [], hW', trodAll_mk1 (shut_bool Tryd.underlying4 _), (trodAll_cons_mk (Below.trod laidOut (by kernel_rfl) (of_decide_eq_true (by kernel_rfl)) k0 bel lt0) trodAll_mk0), rfl, bel.frame _, fun h => by cases h⟩
theorem over : Rows.sixRunsRow.holds Tryd.pinned (OpenSpec.ofChange Rows.sixRunsSpec) :=
  OpenClaim.holds_of_wide 9 Tryd.f9 rfl rfl rfl rfl rfl rfl rfl ⟨rfl, rfl, rfl, rfl, rfl⟩ rfl rfl rfl rfl rfl (by kernel_rfl) Tryd.func9 (by kernel_rfl)
    (of_decide_eq_true (by kernel_rfl)) (by unfold Func.isWrapper; first | (rw [if_pos (by decide +kernel)]; kernel_rfl) | (rw [if_neg (by decide +kernel)]; exact ⟨rfl, rfl⟩))
    (fun os started H enc _ => lifted os started H enc)
theorem card : Rows.SixRunsCardSaid :=
  Claim7.holds_tied_plain_at .later [] [.data, .data, .data, .data, .sentinel, .sentinel, .pinned] true (true, "209ff717a42ca7e135cdbb6e5aeb0c5b9227271340a1c355ff8ec7362c278c6a") true
    over (fun _ h => by cases h) (by kernel_rfl) (fun _ h => by cases h) sixRuns_row_tie rfl ⟨rfl, rfl⟩ (by kernel_rfl) rfl
    (fun f fn hf hfn => by
      obtain rfl : f = 9 := Option.some.inj ((show Tryd.prog.funcNamed "cribble/cribblelaw04.SixRuns" = some 9 by kernel_rfl).symm.trans hf) |>.symm
      obtain rfl : fn = Tryd.f9 := (Option.some.inj (Tryd.func9.symm.trans hfn)).symm
      exact ⟨by kernel_rfl, fun j t ht => by
        rw [Tryd.params9] at ht
        have hm : t ∈ [42] := by simpa using Array.mem_of_getElem? ht
        have hall : ([42].all fun u => !Tryd.prog.wantsStandIn u) = true := by kernel_rfl
        exact (show Tryd.prog.wantsStandIn t = false by simpa using List.all_eq_true.1 hall t hm)⟩)
    (by kernel_rfl)
end Go.Proofs.YtpjophfcbaoiaaaDoor.sixRuns
namespace Go.Proofs.YtpjophfcbaoiaaaDoor
theorem sixRuns_card_holds : Rows.SixRunsCardSaid := sixRuns.card
#print axioms sixRuns_card_holds
end Go.Proofs.YtpjophfcbaoiaaaDoor

