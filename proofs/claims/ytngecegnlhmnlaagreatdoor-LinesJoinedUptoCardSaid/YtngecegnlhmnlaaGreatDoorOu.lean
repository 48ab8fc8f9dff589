/- LinesJoined: joined lines are read as the flows that may be. The second form: where what it reads is of bulk at most 1048576. Its row and its tied card. Conditions: none beyond the statement's own. -/
import Derived.Test.YtngecegnlhmnlaaGreatDoorRows
import Derived.Test.YtngecegnlhmnlaaGreatDoorZd5
import Derived.Test.YtngecegnlhmnlaaGreatDoorOuf
import Derived.Test.YtngecegnlhmnlaaGreatDoorOug
import Derived.Test.YtngecegnlhmnlaaGreatDoorTie
import Derived.Test.YtngecegnlhmnlaaGreatDoorCards
import Derived.SevenTiedAt
import Derived.Deep.DeepHandedRow
namespace Go.Proofs.YtngecegnlhmnlaaGreatDoor.linesJoinedUpto
open Go.ChangeShapes Go.WideShapes Go.ChangeAt Go.RowKit Go.Vc Go.Proofs.YtngecegnlhmnlaaGreatDoor.Fo
open Go.ChangeMaps (open_string shut_string)
theorem all_le {H : Type} {d : DataW H} : ∀ {l : List (DataW H)}, d ∈ l → Rows.uptoBulk d ≤ Rows.uptoBulkAll l
  | x :: r, h => by
    simp only [Rows.uptoBulkAll]
    rcases List.mem_cons.1 h with rfl | h
    · omega
    · have := all_le h; omega
theorem one_le {H : Type} (d : DataW H) : 1 ≤ Rows.uptoBulk d := by
  cases d with
  | lit l => cases l <;> simp [Rows.uptoBulk]
  | _ => simp [Rows.uptoBulk]
theorem len_le {H : Type} : ∀ l : List (DataW H), l.length ≤ Rows.uptoBulkAll l
  | [] => by simp [Rows.uptoBulkAll]
  | x :: r => by have := len_le r; have := one_le x; simp only [Rows.uptoBulkAll, List.length_cons]; omega
theorem bulkU {H : Type} : Bulk (H := H) Rows.uptoBulk :=
  ⟨fun b => by simp only [Rows.uptoBulk]; omega, fun l d h => by have := all_le h; simp only [Rows.uptoBulk]; omega, fun l s d h => by have := all_le h; simp only [Rows.uptoBulk]; omega, fun l s => by have := len_le l; simp only [Rows.uptoBulk]; omega⟩
theorem sum_le {H : Type} : ∀ l : List (DataW H), (l.map Rows.uptoBulk).sum ≤ Rows.uptoBulkAll l
  | [] => Nat.le_refl _
  | x :: r => by have := sum_le r; rw [List.map_cons, List.sum_cons]; simp only [Rows.uptoBulkAll]; omega
theorem sumU {H : Type} : ∀ l s : List (DataW H), (l.map Rows.uptoBulk).sum ≤ Rows.uptoBulk (.slice l s) := fun l s => by have := sum_le l; simp only [Rows.uptoBulk]; omega
set_option maxRecDepth 100000 in
theorem lifted (os : Os) (started : os.Started) (H : Type) (enc : TypeId × Value → H) (F : Stop.Interp) :
    ReturnsInHanded {} Tryz.checked os 8 .any ((Rows.OpenSpec.upto Rows.linesJoinedSpec).preRow enc Tryz.prog Tryz.f8 Rows.linesJoinedUptoRow.domain false Rows.linesJoinedUptoRow.laid)
      (((Rows.OpenSpec.upto Rows.linesJoinedSpec).at F).post enc Tryz.prog Tryz.f8 false true false false) := by
  have hread : ∃ places, DataW.whole enc Tryz.prog ((World.laidAll Tryz.prog os Go.Proofs.YtngecegnlhmnlaaGreatDoor.Fo.laid).forCall (fun _ _ => 0) ⟨#[], #[.slice none 0 0], []⟩).memory Tryz.f8.params.toList Rows.linesJoinedSpec.vars false (#[.slice none 0 0] : Array Value).toList 8 = some ([.nil], [], places) := ⟨[], by kernel_rfl⟩
  obtain ⟨places, hx⟩ := hread
  refine returnsInHanded_of_row (C := Tryz.checked) (s := Rows.OpenSpec.upto Rows.linesJoinedSpec) own started (by kernel_rfl) Tryz.func8
    (witness_row_at (enc := enc) (C := Tryz.checked) false (World.laidAll Tryz.prog os Go.Proofs.YtngecegnlhmnlaaGreatDoor.Fo.laid) #[.slice none 0 0] (World.laidAll_os _ _ _) (by kernel_rfl) (by kernel_rfl) (by kernel_rfl)
      (OpenSpec.preRow_of_cond 8 hx (by kernel_rfl) (fun k hk => by cases hk; kernel_rfl) (by kernel_rfl) (laidMet_laidAll _ (by kernel_rfl) (by kernel_rfl)))) ?_
  intro W base args ds gs before hval0 hW _ hcond hsz0 hL hsh _
  have hv : Go.Proofs.YtngecegnlhmnlaaGreatDoor.Si.V6 W := Go.Proofs.YtngecegnlhmnlaaGreatDoor.Si.v6_of hsh hL
  have hk : Rows.uptoBulkAll (ds ++ gs) ≤ 1048576 := of_decide_eq_true (hcond _ rfl)
  have hval : ∀ (j : Nat) t v, Tryz.f8.params[j]? = some t → args[j]? = some v → Value.okWide Tryz.prog W .any base t v := hval0
  have hW' := hW
  obtain ⟨p, q, hA0, hV, rfl, hfz, hnd⟩ := hW
  have hA : DataW.TrodAll enc Tryz.prog W 0 (fun _ => true) true Tryz.f8.params.toList args.toList ds p := hA0
  rw [Tryz.params8] at hA hval
  obtain ⟨v0, vs0, d0, ds0, p0, q0, hargs, rfl, rfl, h0, r0⟩ := trodAll_cons hA
  obtain ⟨rfl, rfl, rfl⟩ := trodAll_nil r0
  obtain rfl : args = #[v0] := by cases args; simp_all
  obtain ⟨rfl, rfl⟩ := trodVars_none hV
  have c0 : Rows.uptoBulk d0 ≤ 1048576 := Nat.le_trans (all_le (by simp)) hk
  have k0 := h0
  have lt0 : ∀ x ∈ p0, x.block < W.heap.size := by obtain ⟨m, hm⟩ := k0; exact DataW.trod_lt m _ _ _ hm
  obtain ⟨g0, m0, cp0, rfl⟩ := okWide_slice Tryz.underlying22 (hval 0 22 v0 rfl rfl)
  obtain ⟨a0, n0, w0, _, _, e0, b0⟩ := open_listS bulkU sumU Tryz.underlying22 (by kernel_rfl) (by kernel_rfl) (by decide) Ke.enR_len c0 Ke.dec_rec h0
  clear hA0 hval0 hsz0
  refine Calls.mono (Ke.linesJoined_law hv w0 n0.symm (Ke.sumR_ok e0) (by omega)) fun e W' hh => ?_
  obtain ⟨_, he, rfl, bel⟩ := hh
  subst he
  exact ⟨_, rfl, _, _, _, [], _, [], hW', trodAll_mk1 (shut_bool Tryz.underlying4 _), (trodAll_cons_mk (Below.trod laidOut (by kernel_rfl) (of_decide_eq_true (by kernel_rfl)) k0 bel lt0) trodAll_mk0), rfl, bel.frame _, fun h => by cases h⟩
theorem over : Rows.LinesJoinedUptoSaid :=
  OpenClaim.holds_of_cond 8 Tryz.f8 rfl rfl rfl rfl rfl rfl rfl ⟨rfl, rfl, rfl, rfl, rfl⟩ rfl rfl rfl rfl rfl (by kernel_rfl) Tryz.func8 closed
    (of_decide_eq_true (by kernel_rfl)) (by unfold Func.isWrapper; first | (rw [if_pos (by decide +kernel)]; kernel_rfl) | (rw [if_neg (by decide +kernel)]; exact ⟨rfl, rfl⟩))
    (fun os started H enc _ F => by rw [OpenClaim.pre_eq_preRow]; exact lifted os started H enc F)
theorem card : Rows.LinesJoinedUptoCardSaid :=
  Claim7.holds_tied_plain_at .later [] _ _ _ _
    over (fun _ h => by cases h) cardW (fun _ h => by cases h) linesJoinedUpto_row_tie rfl ⟨rfl, rfl⟩ cardM rfl
    (fun f fn hf hfn => by
      obtain rfl : f = 8 := Option.some.inj ((show Tryz.prog.funcNamed "cribble/cribblelaw18.LinesJoined" = some 8 by kernel_rfl).symm.trans hf) |>.symm
      obtain rfl : fn = Tryz.f8 := (Option.some.inj (Tryz.func8.symm.trans hfn)).symm
      exact ⟨cardL, fun j t ht => by
        rw [Tryz.params8] at ht
        have hm : t ∈ [22] := by simpa using Array.mem_of_getElem? ht
        have hall : ([22].all fun u => !Tryz.prog.wantsStandIn u) = true := by kernel_rfl
        exact (show Tryz.prog.wantsStandIn t = false by simpa using List.all_eq_true.1 hall t hm)⟩)
    cardG
end Go.Proofs.YtngecegnlhmnlaaGreatDoor.linesJoinedUpto
namespace Go.Proofs.YtngecegnlhmnlaaGreatDoor
theorem linesJoinedUpto_card_holds : Rows.LinesJoinedUptoCardSaid := linesJoinedUpto.card
#print axioms linesJoinedUpto_card_holds
end Go.Proofs.YtngecegnlhmnlaaGreatDoor

