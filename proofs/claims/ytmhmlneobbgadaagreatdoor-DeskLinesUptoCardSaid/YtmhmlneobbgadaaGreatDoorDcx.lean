/- DeskLines: Command, Line, Hex and Unhex return the results of the reference. The second form: where what it reads is of bulk at most 1048576. Its row and its tied card. Conditions: none beyond the statement's own. -/
import Derived.Test.YtmhmlneobbgadaaGreatDoorRows
import Derived.Test.YtmhmlneobbgadaaGreatDoorDbn
import Derived.Test.YtmhmlneobbgadaaGreatDoorDz
import Derived.Test.YtmhmlneobbgadaaGreatDoorDcf
import Derived.Test.YtmhmlneobbgadaaGreatDoorDcw
import Derived.Test.YtmhmlneobbgadaaGreatDoorDcv
import Derived.Test.YtmhmlneobbgadaaGreatDoorDcu
import Derived.Test.YtmhmlneobbgadaaGreatDoorDcg
import Derived.Test.YtmhmlneobbgadaaGreatDoorDct
import Derived.Test.YtmhmlneobbgadaaGreatDoorCards
import Derived.SevenTiedAt
import Derived.Deep.DeepHandedRow
namespace Go.Proofs.YtmhmlneobbgadaaGreatDoor.deskLinesUpto
open Go.ChangeShapes Go.WideShapes Go.ChangeAt Go.RowKit Go.Vc Go.Proofs.YtmhmlneobbgadaaGreatDoor.Fo
open Go.ChangeMaps (open_string shut_string)
theorem all_le {H : Type} {d : DataW H} : ∀ {l : List (DataW H)}, d ∈ l → Rows.uptoBulk d ≤ Rows.uptoBulkAll l
  | x :: r, h => by
    simp only [Rows.uptoBulkAll]
    rcases List.mem_cons.1 h with rfl | h
    · omega
    · have := all_le h; omega
theorem one_le {H : Type} (d : DataW H) : 1 ≤ Rows.uptoBulk d := by
  cases d with
  | lit l => cases l <;> simp [Rows.uptoBulk]
  | _ => simp [Rows.uptoBulk]
theorem len_le {H : Type} : ∀ l : List (DataW H), l.length ≤ Rows.uptoBulkAll l
  | [] => by simp [Rows.uptoBulkAll]
  | x :: r => by have := len_le r; have := one_le x; simp only [Rows.uptoBulkAll, List.length_cons]; omega
theorem bulkU {H : Type} : Bulk (H := H) Rows.uptoBulk :=
  ⟨fun b => by simp only [Rows.uptoBulk]; omega, fun l d h => by have := all_le h; simp only [Rows.uptoBulk]; omega, fun l s d h => by have := all_le h; simp only [Rows.uptoBulk]; omega, fun l s => by have := len_le l; simp only [Rows.uptoBulk]; omega⟩
set_option maxRecDepth 100000 in
theorem lifted (os : Os) (started : os.Started) (H : Type) (enc : TypeId × Value → H) (F : Stop.Interp) :
    ReturnsInHanded {} Tryz.checked os 4 .any ((Rows.OpenSpec.upto Rows.deskLinesSpec).preRow enc Tryz.prog Tryz.f4 Rows.deskLinesUptoRow.domain false Rows.deskLinesUptoRow.laid)
      (((Rows.OpenSpec.upto Rows.deskLinesSpec).at F).post enc Tryz.prog Tryz.f4 false true false false) := by
  have hread := l_read os H enc
  obtain ⟨places, hx⟩ := hread
  refine returnsInHanded_of_row (C := Tryz.checked) (s := Rows.OpenSpec.upto Rows.deskLinesSpec) own started l_no Tryz.func4
    (witness_row_at (enc := enc) (C := Tryz.checked) false (World.laidAll Tryz.prog os Rows.deskLinesRow.laid) #[.string ByteArray.empty, .agg #[.int .i64 0, .int .i64 0, .int .i64 0, .int .i64 0, .slice none 0 0, .string ByteArray.empty], .slice none 0 0, .string ByteArray.empty] (World.laidAll_os _ _ _) (l_vars os) (l_heap os) (l_ok os)
      (OpenSpec.preRow_of_cond 8 hx (by kernel_rfl) (fun k hk => by cases hk; kernel_rfl) (l_sized os H enc) (laidMet_laidAll _ (l_fits os) (l_ifaces os)))) ?_
  intro W base args ds gs before hval0 hW _ hcond hsz0 hL hsh _
  have hv : Cd.Vr W := vr_of hsh
  have hk : Rows.uptoBulkAll (ds ++ gs) ≤ 1048576 := of_decide_eq_true (hcond _ rfl)
  have hval : ∀ (j : Nat) t v, Tryz.f4.params[j]? = some t → args[j]? = some v → Value.okWide Tryz.prog W .any base t v := hval0
  have hW' := hW
  obtain ⟨p, q, hA0, hV, rfl, hfz, hnd⟩ := hW
  have hA : DataW.TrodAll enc Tryz.prog W 0 (fun _ => true) true Tryz.f4.params.toList args.toList ds p := hA0
  rw [Tryz.params4] at hA hval
  obtain ⟨v0, vs0, d0, ds0, p0, q0, hargs, rfl, rfl, h0, r0⟩ := trodAll_cons hA
  obtain ⟨v1, vs1, d1, ds1, p1, q1, rfl, rfl, rfl, h1, r1⟩ := trodAll_cons r0
  obtain ⟨v2, vs2, d2, ds2, p2, q2, rfl, rfl, rfl, h2, r2⟩ := trodAll_cons r1
  obtain ⟨v3, vs3, d3, ds3, p3, q3, rfl, rfl, rfl, h3, r3⟩ := trodAll_cons r2
  obtain ⟨rfl, rfl, rfl⟩ := trodAll_nil r3
  obtain rfl : args = #[v0, v1, v2, v3] := by cases args; simp_all
  obtain ⟨rfl, rfl⟩ := trodVars_none hV
  have c0 : Rows.uptoBulk d0 ≤ 1048576 := Nat.le_trans (all_le (by simp)) hk
  have c1 : Rows.uptoBulk d1 ≤ 1048576 := Nat.le_trans (all_le (by simp)) hk
  have c2 : Rows.uptoBulk d2 ≤ 1048576 := Nat.le_trans (all_le (by simp)) hk
  have c3 : Rows.uptoBulk d3 ≤ 1048576 := Nat.le_trans (all_le (by simp)) hk
  have k0 := h0
  have lt0 : ∀ x ∈ p0, x.block < W.heap.size := by obtain ⟨m, hm⟩ := k0; exact DataW.trod_lt m _ _ _ hm
  obtain ⟨a0, rfl, rfl, rfl, _⟩ := open_string Tryz.underlying9 (hval 0 9 v0 rfl rfl) h0
  have w0 : a0.size ≤ 1048576 := by have h := c0; simp only [Rows.uptoBulk] at h; have e := Array.length_toList (xs := a0.data); have e2 : a0.data.size = a0.size := rfl; omega
  have k1 := h1
  have lt1 : ∀ x ∈ p1, x.block < W.heap.size := by obtain ⟨m, hm⟩ := k1; exact DataW.trod_lt m _ _ _ hm
  obtain ⟨a1, g1, cp1, rfl, w1, e1⟩ := Cd.open_cmd bulkU (hval 1 30 v1 rfl rfl) c1 h1
  have k2 := h2
  have lt2 : ∀ x ∈ p2, x.block < W.heap.size := by obtain ⟨m, hm⟩ := k2; exact DataW.trod_lt m _ _ _ hm
  obtain ⟨g2, m2, cp2, rfl⟩ := okWide_slice Tryz.underlying22 (hval 2 22 v2 rfl rfl)
  obtain ⟨a2, n2, w2, _, _, e2, b2⟩ := open_listB bulkU Tryz.underlying22 (by kernel_rfl) (by kernel_rfl) (by decide) Dk.enC_len c2 Cd.dec_byte h2
  have k3 := h3
  have lt3 : ∀ x ∈ p3, x.block < W.heap.size := by obtain ⟨m, hm⟩ := k3; exact DataW.trod_lt m _ _ _ hm
  obtain ⟨a3, rfl, rfl, rfl, _⟩ := open_string Tryz.underlying9 (hval 3 9 v3 rfl rfl) h3
  have w3 : a3.size ≤ 1048576 := by have h := c3; simp only [Rows.uptoBulk] at h; have e := Array.length_toList (xs := a3.data); have e2 : a3.data.size = a3.size := rfl; omega
  clear hA0 hval0 hsz0
  refine Calls.mono (Cd.lines_law Ev.alive_gives a0 w0 w1 e1 w2 n2.symm (by omega) a3 w3 hv) fun e W' hh => ?_
  obtain ⟨_, he, rfl, bel⟩ := hh
  subst he
  exact ⟨_, rfl, _, _, _, [], _, [], hW', trodAll_mk1 (shut_bool Tryz.underlying4 _), (trodAll_cons_mk (Below.trod laidOut l_r_str (of_decide_eq_true (by kernel_rfl)) k0 bel lt0) (trodAll_cons_mk (Below.trod laidOut l_r_cmd (of_decide_eq_true (by kernel_rfl)) k1 bel lt1) (trodAll_cons_mk (Below.trod laidOut l_r_bytes (of_decide_eq_true (by kernel_rfl)) k2 bel lt2) (trodAll_cons_mk (Below.trod laidOut l_r_str (of_decide_eq_true (by kernel_rfl)) k3 bel lt3) trodAll_mk0)))), rfl, bel.frame _, fun h => by cases h⟩
theorem over : Rows.DeskLinesUptoSaid :=
  OpenClaim.holds_of_cond 4 Tryz.f4 rfl rfl rfl rfl rfl rfl rfl ⟨rfl, rfl, rfl, rfl, rfl⟩ rfl rfl rfl rfl rfl (by kernel_rfl) Tryz.func4 closed
    (of_decide_eq_true (by kernel_rfl)) (by unfold Func.isWrapper; first | (rw [if_pos (by decide +kernel)]; kernel_rfl) | (rw [if_neg (by decide +kernel)]; exact ⟨rfl, rfl⟩))
    (fun os started H enc _ F => by rw [OpenClaim.pre_eq_preRow]; exact lifted os started H enc F)
theorem card : Rows.DeskLinesUptoCardSaid :=
  Claim7.holds_tied_plain_at .later [] _ _ _ _
    over (fun _ h => by cases h) cardW (fun _ h => by cases h) deskLinesUpto_row_tie rfl ⟨rfl, rfl⟩ cardM rfl
    (fun f fn hf hfn => by
      obtain rfl : f = 4 := Option.some.inj (l_n3.symm.trans hf) |>.symm
      obtain rfl : fn = Tryz.f4 := (Option.some.inj (Tryz.func4.symm.trans hfn)).symm
      exact ⟨cardL, fun j t ht => by
        rw [Tryz.params4] at ht
        have hm : t ∈ [9, 30, 22, 9] := by simpa using Array.mem_of_getElem? ht
        have hall : ([9, 30, 22, 9].all fun u => !Tryz.prog.wantsStandIn u) = true := by kernel_rfl
        exact (show Tryz.prog.wantsStandIn t = false by simpa using List.all_eq_true.1 hall t hm)⟩)
    cardG
end Go.Proofs.YtmhmlneobbgadaaGreatDoor.deskLinesUpto
namespace Go.Proofs.YtmhmlneobbgadaaGreatDoor
theorem deskLinesUpto_card_holds : Rows.DeskLinesUptoCardSaid := deskLinesUpto.card
#print axioms deskLinesUpto_card_holds
end Go.Proofs.YtmhmlneobbgadaaGreatDoor

