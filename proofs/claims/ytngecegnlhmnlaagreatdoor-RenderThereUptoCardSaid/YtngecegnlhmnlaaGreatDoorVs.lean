/- RenderThere: what is read, printed, is read as the same. The second form: where what it reads is of bulk at most 1048576. Its row and its tied card. Conditions: none beyond the statement's own. -/
import Derived.Test.YtngecegnlhmnlaaGreatDoorRows
import Derived.Test.YtngecegnlhmnlaaGreatDoorZc5
import Derived.Test.YtngecegnlhmnlaaGreatDoorVsf
import Derived.Test.YtngecegnlhmnlaaGreatDoorVsg
import Derived.Test.YtngecegnlhmnlaaGreatDoorTie
import Derived.Test.YtngecegnlhmnlaaGreatDoorCards
import Derived.SevenTiedAt
import Derived.Deep.DeepHandedRow
namespace Go.Proofs.YtngecegnlhmnlaaGreatDoor.renderThereUpto
open Go.ChangeShapes Go.WideShapes Go.ChangeAt Go.RowKit Go.Vc Go.Proofs.YtngecegnlhmnlaaGreatDoor.Fo
open Go.ChangeMaps (open_string shut_string)
theorem all_le {H : Type} {d : DataW H} : ∀ {l : List (DataW H)}, d ∈ l → Rows.uptoBulk d ≤ Rows.uptoBulkAll l
  | x :: r, h => by
    simp only [Rows.uptoBulkAll]
    rcases List.mem_cons.1 h with rfl | h
    · omega
    · have := all_le h; omega
theorem one_le {H : Type} (d : DataW H) : 1 ≤ Rows.uptoBulk d := by
  cases d with
  | lit l => cases l <;> simp [Rows.uptoBulk]
  | _ => simp [Rows.uptoBulk]
theorem len_le {H : Type} : ∀ l : List (DataW H), l.length ≤ Rows.uptoBulkAll l
  | [] => by simp [Rows.uptoBulkAll]
  | x :: r => by have := len_le r; have := one_le x; simp only [Rows.uptoBulkAll, List.length_cons]; omega
theorem bulkU {H : Type} : Bulk (H := H) Rows.uptoBulk :=
  ⟨fun b => by simp only [Rows.uptoBulk]; omega, fun l d h => by have := all_le h; simp only [Rows.uptoBulk]; omega, fun l s d h => by have := all_le h; simp only [Rows.uptoBulk]; omega, fun l s => by have := len_le l; simp only [Rows.uptoBulk]; omega⟩
set_option maxRecDepth 100000 in
theorem lifted (os : Os) (started : os.Started) (H : Type) (enc : TypeId × Value → H) (F : Stop.Interp) :
    ReturnsInHanded {} Tryz.checked os 18 .any ((Rows.OpenSpec.upto Rows.renderThereSpec).preRow enc Tryz.prog Tryz.f18 Rows.renderThereUptoRow.domain false Rows.renderThereUptoRow.laid)
      (((Rows.OpenSpec.upto Rows.renderThereSpec).at F).post enc Tryz.prog Tryz.f18 false true false false) := by
  have hread : ∃ places, DataW.whole enc Tryz.prog ((World.laidAll Tryz.prog os Go.Proofs.YtngecegnlhmnlaaGreatDoor.Fo.laid).forCall (fun _ _ => 0) ⟨#[], #[.agg #[.int .i64 0, .int .i64 0, .int .i64 0, .int .i64 0, .int .i64 0, .int .i64 0, .int .i64 0], .string ByteArray.empty, .bool false], []⟩).memory Tryz.f18.params.toList Rows.renderThereSpec.vars false (#[.agg #[.int .i64 0, .int .i64 0, .int .i64 0, .int .i64 0, .int .i64 0, .int .i64 0, .int .i64 0], .string ByteArray.empty, .bool false] : Array Value).toList 8 = some ([.agg [.lit (.int .i64 0), .agg [.agg [.lit (.int .i64 0), .lit (.int .i64 0), .lit (.int .i64 0)], .agg [.lit (.int .i64 0), .lit (.int .i64 0), .lit (.int .i64 0)]]], .lit (.string []), .lit (.bool false)], [], places) := ⟨[], by kernel_rfl⟩
  obtain ⟨places, hx⟩ := hread
  refine returnsInHanded_of_row (C := Tryz.checked) (s := Rows.OpenSpec.upto Rows.renderThereSpec) own started (by kernel_rfl) Tryz.func18
    (witness_row_at (enc := enc) (C := Tryz.checked) false (World.laidAll Tryz.prog os Go.Proofs.YtngecegnlhmnlaaGreatDoor.Fo.laid) #[.agg #[.int .i64 0, .int .i64 0, .int .i64 0, .int .i64 0, .int .i64 0, .int .i64 0, .int .i64 0], .string ByteArray.empty, .bool false] (World.laidAll_os _ _ _) (by kernel_rfl) (by kernel_rfl) (by kernel_rfl)
      (OpenSpec.preRow_of_cond 8 hx (by kernel_rfl) (fun k hk => by cases hk; kernel_rfl) (by kernel_rfl) (laidMet_laidAll _ (by kernel_rfl) (by kernel_rfl)))) ?_
  intro W base args ds gs before hval0 hW _ hcond hsz0 hL hsh _
  have hv : Go.Proofs.YtngecegnlhmnlaaGreatDoor.Si.V6 W := Go.Proofs.YtngecegnlhmnlaaGreatDoor.Si.v6_of hsh hL
  have hk : Rows.uptoBulkAll (ds ++ gs) ≤ 1048576 := of_decide_eq_true (hcond _ rfl)
  have hval : ∀ (j : Nat) t v, Tryz.f18.params[j]? = some t → args[j]? = some v → Value.okWide Tryz.prog W .any base t v := hval0
  have hW' := hW
  obtain ⟨p, q, hA0, hV, rfl, hfz, hnd⟩ := hW
  have hA : DataW.TrodAll enc Tryz.prog W 0 (fun _ => true) true Tryz.f18.params.toList args.toList ds p := hA0
  rw [Tryz.params18] at hA hval
  obtain ⟨v0, vs0, d0, ds0, p0, q0, hargs, rfl, rfl, h0, r0⟩ := trodAll_cons hA
  obtain ⟨v1, vs1, d1, ds1, p1, q1, rfl, rfl, rfl, h1, r1⟩ := trodAll_cons r0
  obtain ⟨v2, vs2, d2, ds2, p2, q2, rfl, rfl, rfl, h2, r2⟩ := trodAll_cons r1
  obtain ⟨rfl, rfl, rfl⟩ := trodAll_nil r2
  obtain rfl : args = #[v0, v1, v2] := by cases args; simp_all
  obtain ⟨rfl, rfl⟩ := trodVars_none hV
  have c0 : Rows.uptoBulk d0 ≤ 1048576 := Nat.le_trans (all_le (by simp)) hk
  have c1 : Rows.uptoBulk d1 ≤ 1048576 := Nat.le_trans (all_le (by simp)) hk
  have c2 : Rows.uptoBulk d2 ≤ 1048576 := Nat.le_trans (all_le (by simp)) hk
  have k0 := h0
  have lt0 : ∀ x ∈ p0, x.block < W.heap.size := by obtain ⟨m, hm⟩ := k0; exact DataW.trod_lt m _ _ _ hm
  obtain ⟨a0, rfl, w0⟩ := open_aggB bulkU (by kernel_rfl) (hval 0 51 v0 rfl rfl) (by kernel_rfl) c0 (fun cs h _ => Ke.dec_space cs h) h0
  have k1 := h1
  have lt1 : ∀ x ∈ p1, x.block < W.heap.size := by obtain ⟨m, hm⟩ := k1; exact DataW.trod_lt m _ _ _ hm
  obtain ⟨a1, rfl, rfl, rfl, _⟩ := open_string Tryz.underlying9 (hval 1 9 v1 rfl rfl) h1
  have w1 : a1.size ≤ 1048576 := by have h := c1; simp only [Rows.uptoBulk] at h; have e := Array.length_toList (xs := a1.data); have e2 : a1.data.size = a1.size := rfl; omega
  have k2 := h2
  have lt2 : ∀ x ∈ p2, x.block < W.heap.size := by obtain ⟨m, hm⟩ := k2; exact DataW.trod_lt m _ _ _ hm
  obtain ⟨a2, rfl, rfl, rfl⟩ := open_bool Tryz.underlying4 (hval 2 4 v2 rfl rfl) h2
  clear hA0 hval0 hsz0
  refine Calls.mono (Ke.renderThere_law hv w0 w1 a2) fun e W' hh => ?_
  obtain ⟨_, he, rfl, bel⟩ := hh
  subst he
  exact ⟨_, rfl, _, _, _, [], _, [], hW', trodAll_mk1 (shut_bool Tryz.underlying4 _), (trodAll_cons_mk (Below.trod laidOut (by kernel_rfl) (of_decide_eq_true (by kernel_rfl)) k0 bel lt0) (trodAll_cons_mk (Below.trod laidOut (by kernel_rfl) (of_decide_eq_true (by kernel_rfl)) k1 bel lt1) (trodAll_cons_mk (Below.trod laidOut (by kernel_rfl) (of_decide_eq_true (by kernel_rfl)) k2 bel lt2) trodAll_mk0))), rfl, bel.frame _, fun h => by cases h⟩
theorem over : Rows.RenderThereUptoSaid :=
  OpenClaim.holds_of_cond 18 Tryz.f18 rfl rfl rfl rfl rfl rfl rfl ⟨rfl, rfl, rfl, rfl, rfl⟩ rfl rfl rfl rfl rfl (by kernel_rfl) Tryz.func18 closed
    (of_decide_eq_true (by kernel_rfl)) (by unfold Func.isWrapper; first | (rw [if_pos (by decide +kernel)]; kernel_rfl) | (rw [if_neg (by decide +kernel)]; exact ⟨rfl, rfl⟩))
    (fun os started H enc _ F => by rw [OpenClaim.pre_eq_preRow]; exact lifted os started H enc F)
theorem card : Rows.RenderThereUptoCardSaid :=
  Claim7.holds_tied_plain_at .later [] _ _ _ _
    over (fun _ h => by cases h) cardW (fun _ h => by cases h) renderThereUpto_row_tie rfl ⟨rfl, rfl⟩ cardM rfl
    (fun f fn hf hfn => by
      obtain rfl : f = 18 := Option.some.inj ((show Tryz.prog.funcNamed "cribble/cribblelaw30.RenderThere" = some 18 by kernel_rfl).symm.trans hf) |>.symm
      obtain rfl : fn = Tryz.f18 := (Option.some.inj (Tryz.func18.symm.trans hfn)).symm
      exact ⟨cardL, fun j t ht => by
        rw [Tryz.params18] at ht
        have hm : t ∈ [51, 9, 4] := by simpa using Array.mem_of_getElem? ht
        have hall : ([51, 9, 4].all fun u => !Tryz.prog.wantsStandIn u) = true := by kernel_rfl
        exact (show Tryz.prog.wantsStandIn t = false by simpa using List.all_eq_true.1 hall t hm)⟩)
    cardG
end Go.Proofs.YtngecegnlhmnlaaGreatDoor.renderThereUpto
namespace Go.Proofs.YtngecegnlhmnlaaGreatDoor
theorem renderThereUpto_card_holds : Rows.RenderThereUptoCardSaid := renderThereUpto.card
#print axioms renderThereUpto_card_holds
end Go.Proofs.YtngecegnlhmnlaaGreatDoor

