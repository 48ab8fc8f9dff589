/- The desk's run: functions without a body, and calls that are known otherwise. -/
import Derived.Test.YtmhmlneobbgadaaGreatDoorQn
import Derived.Test.YtmhmlneobbgadaaGreatDoorDs
import Derived.Test.YtmhmlneobbgadaaGreatDoorDl
import Derived.Shelf.Spec.BitsCarry
import Derived.Test.YtmhmlneobbgadaaGreatDoorDg
namespace Go.Proofs.YtmhmlneobbgadaaGreatDoor.Ev
open Go Go.RowKit Go.Vc Go.Xv

/-! ### Functions without a body -/
theorem ext_add : ExtAt Tryz.prog 127 add64Entry := ⟨⟨_, Tryz.func127, by kernel_rfl, by kernel_rfl, by kernel_rfl, by kernel_rfl⟩⟩
theorem ext_sub : ExtAt Tryz.prog 408 sub64Entry := ⟨⟨_, Tryz.func408, by kernel_rfl, by kernel_rfl, by kernel_rfl, by kernel_rfl⟩⟩
theorem ext_cnt : ExtAt Tryz.prog 71 Extern.BytealgCount.count := ⟨⟨_, Tryz.func71, by kernel_rfl, by kernel_rfl, by kernel_rfl, by kernel_rfl⟩⟩
theorem ext_idx : ExtAt Tryz.prog 90 Extern.BytealgIndexByte.indexByte := ⟨⟨_, Tryz.func90, by kernel_rfl, by kernel_rfl, by kernel_rfl, by kernel_rfl⟩⟩
theorem ext_cmp : ExtAt Tryz.prog 421 Extern.BytealgCompare.compare := ⟨⟨_, Tryz.func421, by kernel_rfl, by kernel_rfl, by kernel_rfl, by kernel_rfl⟩⟩
noncomputable def exFD : FuncId → List CV → Option CV := exIf 127 xAdd64 (exIf 408 xSub64 (exIf 71 xCnt (exIf 90 xIdx (exIf 421 xCmpS fun _ _ => none))))
theorem exFD_ok : ExAll Tryz.prog exFD := by
  have h1 := exIf_ok (xCmpS_ok ext_cmp) (ex0_ok Tryz.prog)
  have h2 := exIf_ok (xIdx_ok ext_idx) h1
  have h3 := exIf_ok (xCnt_ok ext_cnt) h2
  have h4 := exIf_ok (xSub64_ok ext_sub fun x y c hc W => run_sub64 x y c hc W) h3
  exact exIf_ok (xAdd64_ok ext_add) h4
noncomputable def exD : Ex := ⟨exFD, mtB Tryz.prog⟩
theorem exOk_mk {P : Program} {o : FuncId → List CV → Option CV} (h : ExAll P o) (hl : laidOutB P = true) : ExOk P ⟨o, mtB P⟩ := ⟨h, fun _ _ _ hm v args W => mtB_ok hm v args W, hl⟩
theorem exD_ok : ExOk Tryz.prog exD := exOk_mk exFD_ok laidD

/-! ### Builders: where one lies -/
noncomputable def xCC : List CV → St → Option (CV × St)
  | [.p (.o (.p b 0))], S => (match getB S b with
    | some (.cl [.k (.pointer none), c] t) => (match Nat.beq t 46 with | true => some (.t [], setB S b (.cl [.p b 0, c] t)) | false => none)
    | some (.cl [.p b' 0, _] _) => (match Nat.beq b' b with | true => some (.t [], S) | false => none)
    | _ => none)
  | _, _ => none
theorem upVs_p {r : Ro} {b : Nat} {y : Nat × Nat × LoopRec} (h : r b = some y) {l : List CV} {vs : List Value} (hv : upVs r (.p (.o (.p b 0)) :: l) = some vs) : ∃ ws, vs = .pointer (some ⟨y.1, 0, none⟩) :: ws ∧ upVs r l = some ws := by
  unfold upVs at hv
  simp only [upV, upP, up1, h] at hv
  split at hv
  · rename_i v m h1 h2; cases h1; cases hv; exact ⟨_, rfl, h2⟩
  · cases hv
theorem xCC_ok (G : Gl) : ∀ cs S c S', xCC cs S = some (c, S') → ∀ T W0 W r vs, Sim Tryz.prog G T W0 W r S → upVs r cs = some vs → Gives Tryz.prog 43 vs.toArray W fun v W' => ∃ r', Ext r r' ∧ upV r' c = some v ∧ Sim Tryz.prog G T W0 W' r' S' := by
  intro cs S c S' h T W0 W r vs hS hv
  unfold xCC at h
  split at h
  · rename_i b S
    split at h
    · rename_i d t hg
      split at h
      · rename_i ht
        cases h
        have ht := Nat.eq_of_beq_eq_true ht
        subst ht
        obtain ⟨y, e1, e2⟩ := hS.ok _ _ hg
        obtain ⟨ws, rfl, hw⟩ := upVs_p e1 hv
        cases hw
        cases e2 with
        | cl g1 g2 =>
          rename_i l
          obtain ⟨v0, l1, rfl, u0, g3⟩ := upL_cons g1
          cases u0
          have g2' := g2
          have hcell : W.cell? ⟨y.1, 0, none⟩ = some (.pointer none) := by unfold World.cell?; rw [g2]; rfl
          have hlen : l1.length = 1 := by have := upL_len g3; simpa using this
          have hsh : W.shape? y.1 = some (46, 2) := by unfold World.shape?; rw [g2]; simp [hlen]
          have hfz : W.frozen? ⟨y.1, 0, none⟩ = false := by unfold World.frozen?; rw [g2]; rfl
          refine (Any.Builder_copyCheck_fresh (ρ := Tryz.lays156_ren) { Tryz.lays156 with } Tryz.Builder_Extra_156.toX72 y.1 W hcell hsh hfz).mono fun e w' ⟨he, hw⟩ => ⟨_, he, r, Ext.refl r, rfl, ?_⟩
          rw [hw]
          have hset : W.setCell ⟨y.1, 0, none⟩ (.pointer (some ⟨y.1, 0, none⟩)) = World.setBlk W y.1 (.cells (.pointer (some ⟨y.1, 0, none⟩) :: l1).toArray 46 (0, 0)) := by
            unfold World.setCell World.setBlk
            congr 1
            apply Array.ext_getElem?
            intro j
            by_cases hj : y.1 = j
            · subst hj
              rw [Array.getElem?_setIfInBounds_self_of_lt (heap_lt g2), Array.getElem?_modify, if_pos rfl, g2]
              simp
            · rw [Array.getElem?_setIfInBounds_ne hj, Array.getElem?_modify, if_neg hj]
          rw [hset]
          exact hS.turned hg e1 g2 (.cl (upL_mk (by simp only [up1, e1]) g3) (setBlk_same g2))
      · cases h
    · rename_i b' d t hg
      split at h
      · rename_i hb
        cases h
        have hb := Nat.eq_of_beq_eq_true hb
        subst hb
        obtain ⟨y, e1, e2⟩ := hS.ok _ _ hg
        obtain ⟨ws, rfl, hw⟩ := upVs_p e1 hv
        cases hw
        cases e2 with
        | cl g1 g2 =>
          rename_i l
          obtain ⟨v0, l1, rfl, u0, g3⟩ := upL_cons g1
          simp only [up1, e1] at u0
          cases u0
          have hcell : W.cell? ⟨y.1, 0, none⟩ = some (.pointer (some ⟨y.1, 0, none⟩)) := by unfold World.cell?; rw [g2]; rfl
          refine (Any.Builder_copyCheck_used (ρ := Tryz.lays156_ren) { Tryz.lays156 with } Tryz.Builder_Extra_156.toX72 y.1 W hcell).mono fun e w' ⟨he, hw⟩ => ⟨_, he, r, Ext.refl r, rfl, ?_⟩
          rw [hw]; exact hS
      · cases h
    · cases h
  · cases h
end Go.Proofs.YtmhmlneobbgadaaGreatDoor.Ev
