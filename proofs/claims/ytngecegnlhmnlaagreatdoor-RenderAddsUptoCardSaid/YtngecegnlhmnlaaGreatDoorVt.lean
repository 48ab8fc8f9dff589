/- RenderAdds: texts joined are the texts of lists joined. The second form: where what it reads is of bulk at most 1048576. Its row and its tied card. Conditions: none beyond the statement's own. -/
import Derived.Test.YtngecegnlhmnlaaGreatDoorRows
import Derived.Test.YtngecegnlhmnlaaGreatDoorZc5
import Derived.Test.YtngecegnlhmnlaaGreatDoorVtf
import Derived.Test.YtngecegnlhmnlaaGreatDoorVtg
import Derived.Test.YtngecegnlhmnlaaGreatDoorTie
import Derived.Test.YtngecegnlhmnlaaGreatDoorCards
import Derived.SevenTiedAt
import Derived.Deep.DeepHandedRow
namespace Go.Proofs.YtngecegnlhmnlaaGreatDoor.renderAddsUpto
open Go.ChangeShapes Go.WideShapes Go.ChangeAt Go.RowKit Go.Vc Go.Proofs.YtngecegnlhmnlaaGreatDoor.Fo
open Go.ChangeMaps (open_string shut_string)
theorem all_le {H : Type} {d : DataW H} : ∀ {l : List (DataW H)}, d ∈ l → Rows.uptoBulk d ≤ Rows.uptoBulkAll l
  | x :: r, h => by
    simp only [Rows.uptoBulkAll]
    rcases List.mem_cons.1 h with rfl | h
    · omega
    · have := all_le h; omega
theorem one_le {H : Type} (d : DataW H) : 1 ≤ Rows.uptoBulk d := by
  cases d with
  | lit l => cases l <;> simp [Rows.uptoBulk]
  | _ => simp [Rows.uptoBulk]
theorem len_le {H : Type} : ∀ l : List (DataW H), l.length ≤ Rows.uptoBulkAll l
  | [] => by simp [Rows.uptoBulkAll]
  | x :: r => by have := len_le r; have := one_le x; simp only [Rows.uptoBulkAll, List.length_cons]; omega
theorem bulkU {H : Type} : Bulk (H := H) Rows.uptoBulk :=
  ⟨fun b => by simp only [Rows.uptoBulk]; omega, fun l d h => by have := all_le h; simp only [Rows.uptoBulk]; omega, fun l s d h => by have := all_le h; simp only [Rows.uptoBulk]; omega, fun l s => by have := len_le l; simp only [Rows.uptoBulk]; omega⟩
theorem sum_le {H : Type} : ∀ l : List (DataW H), (l.map Rows.uptoBulk).sum ≤ Rows.uptoBulkAll l
  | [] => Nat.le_refl _
  | x :: r => by have := sum_le r; rw [List.map_cons, List.sum_cons]; simp only [Rows.uptoBulkAll]; omega
theorem sumU {H : Type} : ∀ l s : List (DataW H), (l.map Rows.uptoBulk).sum ≤ Rows.uptoBulk (.slice l s) := fun l s => by have := sum_le l; simp only [Rows.uptoBulk]; omega
set_option maxRecDepth 100000 in
theorem lifted (os : Os) (started : os.Started) (H : Type) (enc : TypeId × Value → H) (F : Stop.Interp) :
    ReturnsInHanded {} Tryz.checked os 19 .any ((Rows.OpenSpec.upto Rows.renderAddsSpec).preRow enc Tryz.prog Tryz.f19 Rows.renderAddsUptoRow.domain false Rows.renderAddsUptoRow.laid)
      (((Rows.OpenSpec.upto Rows.renderAddsSpec).at F).post enc Tryz.prog Tryz.f19 false true false false) := by
  have hread : ∃ places, DataW.whole enc Tryz.prog ((World.laidAll Tryz.prog os Go.Proofs.YtngecegnlhmnlaaGreatDoor.Fo.laid).forCall (fun _ _ => 0) ⟨#[], #[.agg #[.int .i64 0, .int .i64 0, .int .i64 0, .int .i64 0, .int .i64 0, .int .i64 0, .int .i64 0], .slice none 0 0, .slice none 0 0, .string ByteArray.empty, .string ByteArray.empty], []⟩).memory Tryz.f19.params.toList Rows.renderAddsSpec.vars false (#[.agg #[.int .i64 0, .int .i64 0, .int .i64 0, .int .i64 0, .int .i64 0, .int .i64 0, .int .i64 0], .slice none 0 0, .slice none 0 0, .string ByteArray.empty, .string ByteArray.empty] : Array Value).toList 8 = some ([.agg [.lit (.int .i64 0), .agg [.agg [.lit (.int .i64 0), .lit (.int .i64 0), .lit (.int .i64 0)], .agg [.lit (.int .i64 0), .lit (.int .i64 0), .lit (.int .i64 0)]]], .nil, .nil, .lit (.string []), .lit (.string [])], [], places) := ⟨[], by kernel_rfl⟩
  obtain ⟨places, hx⟩ := hread
  refine returnsInHanded_of_row (C := Tryz.checked) (s := Rows.OpenSpec.upto Rows.renderAddsSpec) own started (by kernel_rfl) Tryz.func19
    (witness_row_at (enc := enc) (C := Tryz.checked) false (World.laidAll Tryz.prog os Go.Proofs.YtngecegnlhmnlaaGreatDoor.Fo.laid) #[.agg #[.int .i64 0, .int .i64 0, .int .i64 0, .int .i64 0, .int .i64 0, .int .i64 0, .int .i64 0], .slice none 0 0, .slice none 0 0, .string ByteArray.empty, .string ByteArray.empty] (World.laidAll_os _ _ _) (by kernel_rfl) (by kernel_rfl) (by kernel_rfl)
      (OpenSpec.preRow_of_cond 8 hx (by kernel_rfl) (fun k hk => by cases hk; kernel_rfl) (by kernel_rfl) (laidMet_laidAll _ (by kernel_rfl) (by kernel_rfl)))) ?_
  intro W base args ds gs before hval0 hW _ hcond hsz0 hL hsh _
  have hv : Go.Proofs.YtngecegnlhmnlaaGreatDoor.Si.V6 W := Go.Proofs.YtngecegnlhmnlaaGreatDoor.Si.v6_of hsh hL
  have hk : Rows.uptoBulkAll (ds ++ gs) ≤ 1048576 := of_decide_eq_true (hcond _ rfl)
  have hval : ∀ (j : Nat) t v, Tryz.f19.params[j]? = some t → args[j]? = some v → Value.okWide Tryz.prog W .any base t v := hval0
  have hW' := hW
  obtain ⟨p, q, hA0, hV, rfl, hfz, hnd⟩ := hW
  have hA : DataW.TrodAll enc Tryz.prog W 0 (fun _ => true) true Tryz.f19.params.toList args.toList ds p := hA0
  rw [Tryz.params19] at hA hval
  obtain ⟨v0, vs0, d0, ds0, p0, q0, hargs, rfl, rfl, h0, r0⟩ := trodAll_cons hA
  obtain ⟨v1, vs1, d1, ds1, p1, q1, rfl, rfl, rfl, h1, r1⟩ := trodAll_cons r0
  obtain ⟨v2, vs2, d2, ds2, p2, q2, rfl, rfl, rfl, h2, r2⟩ := trodAll_cons r1
  obtain ⟨v3, vs3, d3, ds3, p3, q3, rfl, rfl, rfl, h3, r3⟩ := trodAll_cons r2
  obtain ⟨v4, vs4, d4, ds4, p4, q4, rfl, rfl, rfl, h4, r4⟩ := trodAll_cons r3
  obtain ⟨rfl, rfl, rfl⟩ := trodAll_nil r4
  obtain rfl : args = #[v0, v1, v2, v3, v4] := by cases args; simp_all
  obtain ⟨rfl, rfl⟩ := trodVars_none hV
  have c0 : Rows.uptoBulk d0 ≤ 1048576 := Nat.le_trans (all_le (by simp)) hk
  have c1 : Rows.uptoBulk d1 ≤ 1048576 := Nat.le_trans (all_le (by simp)) hk
  have c2 : Rows.uptoBulk d2 ≤ 1048576 := Nat.le_trans (all_le (by simp)) hk
  have c3 : Rows.uptoBulk d3 ≤ 1048576 := Nat.le_trans (all_le (by simp)) hk
  have c4 : Rows.uptoBulk d4 ≤ 1048576 := Nat.le_trans (all_le (by simp)) hk
  have k0 := h0
  have lt0 : ∀ x ∈ p0, x.block < W.heap.size := by obtain ⟨m, hm⟩ := k0; exact DataW.trod_lt m _ _ _ hm
  obtain ⟨a0, rfl, w0⟩ := open_aggB bulkU (by kernel_rfl) (hval 0 51 v0 rfl rfl) (by kernel_rfl) c0 (fun cs h _ => Ke.dec_space cs h) h0
  have k1 := h1
  have lt1 : ∀ x ∈ p1, x.block < W.heap.size := by obtain ⟨m, hm⟩ := k1; exact DataW.trod_lt m _ _ _ hm
  obtain ⟨g1, m1, cp1, rfl⟩ := okWide_slice Tryz.underlying61 (hval 1 61 v1 rfl rfl)
  obtain ⟨a1, n1, w1, _, _, e1, b1⟩ := open_listS bulkU sumU Tryz.underlying61 (by kernel_rfl) (by kernel_rfl) (by decide) Ke.enL_len c1 Ke.dec_line h1
  have k2 := h2
  have lt2 : ∀ x ∈ p2, x.block < W.heap.size := by obtain ⟨m, hm⟩ := k2; exact DataW.trod_lt m _ _ _ hm
  obtain ⟨g2, m2, cp2, rfl⟩ := okWide_slice Tryz.underlying61 (hval 2 61 v2 rfl rfl)
  obtain ⟨a2, n2, w2, _, _, e2, b2⟩ := open_listS bulkU sumU Tryz.underlying61 (by kernel_rfl) (by kernel_rfl) (by decide) Ke.enL_len c2 Ke.dec_line h2
  have k3 := h3
  have lt3 : ∀ x ∈ p3, x.block < W.heap.size := by obtain ⟨m, hm⟩ := k3; exact DataW.trod_lt m _ _ _ hm
  obtain ⟨a3, rfl, rfl, rfl, _⟩ := open_string Tryz.underlying9 (hval 3 9 v3 rfl rfl) h3
  have w3 : a3.size ≤ 1048576 := by have h := c3; simp only [Rows.uptoBulk] at h; have e := Array.length_toList (xs := a3.data); have e2 : a3.data.size = a3.size := rfl; omega
  have k4 := h4
  have lt4 : ∀ x ∈ p4, x.block < W.heap.size := by obtain ⟨m, hm⟩ := k4; exact DataW.trod_lt m _ _ _ hm
  obtain ⟨a4, rfl, rfl, rfl, _⟩ := open_string Tryz.underlying9 (hval 4 9 v4 rfl rfl) h4
  have w4 : a4.size ≤ 1048576 := by have h := c4; simp only [Rows.uptoBulk] at h; have e := Array.length_toList (xs := a4.data); have e2 : a4.data.size = a4.size := rfl; omega
  clear hA0 hval0 hsz0
  refine Calls.mono (Ke.renderAdds_law hv w0 w1 w2 n1.symm n2.symm (Ke.sums_ok e1) (Ke.sums_ok e2) (by omega) (by omega) w3 w4) fun e W' hh => ?_
  obtain ⟨_, he, rfl, bel⟩ := hh
  subst he
  exact ⟨_, rfl, _, _, _, [], _, [], hW', trodAll_mk1 (shut_bool Tryz.underlying4 _), (trodAll_cons_mk (Below.trod laidOut (by kernel_rfl) (of_decide_eq_true (by kernel_rfl)) k0 bel lt0) (trodAll_cons_mk (Below.trod laidOut (by kernel_rfl) (of_decide_eq_true (by kernel_rfl)) k1 bel lt1) (trodAll_cons_mk (Below.trod laidOut (by kernel_rfl) (of_decide_eq_true (by kernel_rfl)) k2 bel lt2) (trodAll_cons_mk (Below.trod laidOut (by kernel_rfl) (of_decide_eq_true (by kernel_rfl)) k3 bel lt3) (trodAll_cons_mk (Below.trod laidOut (by kernel_rfl) (of_decide_eq_true (by kernel_rfl)) k4 bel lt4) trodAll_mk0))))), rfl, bel.frame _, fun h => by cases h⟩
theorem over : Rows.RenderAddsUptoSaid :=
  OpenClaim.holds_of_cond 19 Tryz.f19 rfl rfl rfl rfl rfl rfl rfl ⟨rfl, rfl, rfl, rfl, rfl⟩ rfl rfl rfl rfl rfl (by kernel_rfl) Tryz.func19 closed
    (of_decide_eq_true (by kernel_rfl)) (by unfold Func.isWrapper; first | (rw [if_pos (by decide +kernel)]; kernel_rfl) | (rw [if_neg (by decide +kernel)]; exact ⟨rfl, rfl⟩))
    (fun os started H enc _ F => by rw [OpenClaim.pre_eq_preRow]; exact lifted os started H enc F)
theorem card : Rows.RenderAddsUptoCardSaid :=
  Claim7.holds_tied_plain_at .later [] _ _ _ _
    over (fun _ h => by cases h) cardW (fun _ h => by cases h) renderAddsUpto_row_tie rfl ⟨rfl, rfl⟩ cardM rfl
    (fun f fn hf hfn => by
      obtain rfl : f = 19 := Option.some.inj ((show Tryz.prog.funcNamed "cribble/cribblelaw30.RenderAdds" = some 19 by kernel_rfl).symm.trans hf) |>.symm
      obtain rfl : fn = Tryz.f19 := (Option.some.inj (Tryz.func19.symm.trans hfn)).symm
      exact ⟨cardL, fun j t ht => by
        rw [Tryz.params19] at ht
        have hm : t ∈ [51, 61, 61, 9, 9] := by simpa using Array.mem_of_getElem? ht
        have hall : ([51, 61, 61, 9, 9].all fun u => !Tryz.prog.wantsStandIn u) = true := by kernel_rfl
        exact (show Tryz.prog.wantsStandIn t = false by simpa using List.all_eq_true.1 hall t hm)⟩)
    cardG
end Go.Proofs.YtngecegnlhmnlaaGreatDoor.renderAddsUpto
namespace Go.Proofs.YtngecegnlhmnlaaGreatDoor
theorem renderAddsUpto_card_holds : Rows.RenderAddsUptoCardSaid := renderAddsUpto.card
#print axioms renderAddsUpto_card_holds
end Go.Proofs.YtngecegnlhmnlaaGreatDoor

