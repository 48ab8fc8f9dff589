/- The verification condition of code and of functions is enough. -/
import Derived.Test.YtmhmlneobbgadaaGreatDoorVcGa
namespace Go.Vc
open Go Go.RowKit

theorem dsts_sublist {l m : List Oper} (h : l.Sublist m) : (dsts l).Sublist (dsts m) := by
  induction h with
  | slnil => exact List.Sublist.refl _
  | cons x _ ih => rw [dsts_cons x]; exact List.Sublist.trans ih (List.sublist_append_right _ _)
  | cons_cons x _ ih => rw [dsts_cons x, dsts_cons x]; exact List.Sublist.append (List.Sublist.refl _) ih
theorem late_cls {P : Program} {l : Lates} {o : Oper} {x : LK} (h : lateOf P l o = some x) : cls P o.op = 0 ∧ isLoad o.op = false := by
  obtain ⟨dst, op, type, pos, after, guard⟩ := o
  unfold lateOf at h
  cases guard with
  | some g => simp at h
  | none =>
    cases dst with
    | none => simp at h
    | some d =>
      simp only at h
      split at h
      · exact ⟨rfl, rfl⟩
      · exact ⟨rfl, rfl⟩
      · exact ⟨rfl, rfl⟩
      · rename_i c
        split at h
        · rename_i hcal
          split at h
          · split at h
            · split at h
              · rename_i t0 ht0
                split at h
                · rename_i hsl
                  have hmp : isMp P t0 = false := by
                    unfold isSl at hsl
                    unfold isMp
                    split at hsl
                    · rename_i hu; rw [hu]
                    · cases hsl
                  refine ⟨?_, rfl⟩
                  simp only [cls, hcal, ht0, hmp]
                · cases h
              · cases h
            · cases h
          · cases h
        · cases h
      · cases h
theorem countP_not_replicate (n : Nat) (b : Bool) : (List.replicate n b).countP (fun b => !b) = if b then 0 else n := by
  rw [List.countP_replicate]; cases b <;> simp
theorem preL_spec (T : List Nat) : ∀ (l : List (Oper × Nat)), ∀ o, o ∈ preL T l ↔ ∃ i, (o, i) ∈ l ∧ i ∉ T
  | [], o => by simp [preL]
  | (x, j) :: r, o => by
    simp only [preL]
    split
    · rename_i hm
      have hj := (memB_iff _ _).1 hm
      rw [preL_spec T r o]
      constructor
      · rintro ⟨i, h1, h2⟩; exact ⟨i, by simp [h1], h2⟩
      · rintro ⟨i, h1, h2⟩
        rcases List.mem_cons.1 h1 with h | h
        · cases h; exact absurd hj h2
        · exact ⟨i, h, h2⟩
    · rename_i hm
      have hj := (memB_false _ _).1 hm
      rw [List.mem_cons, preL_spec T r o]
      constructor
      · rintro (h | ⟨i, h1, h2⟩)
        · subst h; exact ⟨j, by simp, hj⟩
        · exact ⟨i, by simp [h1], h2⟩
      · rintro ⟨i, h1, h2⟩
        rcases List.mem_cons.1 h1 with h | h
        · cases h; exact .inl rfl
        · exact .inr ⟨i, h, h2⟩
theorem preL_sub (T : List Nat) : ∀ (l : List (Oper × Nat)), (preL T l).Sublist (l.map (·.1))
  | [] => List.Sublist.refl _
  | (x, j) :: r => by
    simp only [preL, List.map_cons]
    split
    · exact (preL_sub T r).trans (List.sublist_cons_self _ _)
    · exact (preL_sub T r).cons_cons _
theorem preL_sublist (T : List Nat) (ops : List Oper) : (preL T ops.zipIdx).Sublist ops := by
  have := preL_sub T ops.zipIdx
  rwa [List.zipIdx_map_fst] at this
theorem preL_mem {T : List Nat} {ops : List Oper} {i : Nat} {o : Oper} (ho : ops[i]? = some o) (hi : i ∉ T) : o ∈ preL T ops.zipIdx :=
  (preL_spec T _ o).2 ⟨i, by rw [List.mem_zipIdx_iff_getElem?]; exact ho, hi⟩
theorem preL_idx {T : List Nat} {ops : List Oper} {o : Oper} (ho : o ∈ preL T ops.zipIdx) : ∃ i, i ∉ T ∧ ops[i]? = some o := by
  obtain ⟨i, h1, h2⟩ := (preL_spec T _ o).1 ho
  exact ⟨i, h2, by rw [List.mem_zipIdx_iff_getElem?] at h1; exact h1⟩
theorem vcDrawT_sound {ro : Option Nat} {P : Program} {T : List Nat} {ops : List Oper} {id : Nat} {kn : Env → World → Prop} {kp : List PanicEntry → World → Prop} {Q : Exit → Act → World → Prop} {a : Act} {w : World} {e : Env}
    (hm : P.follows .mixedOrders = true)
    (hQn : ∀ e' a' w', kn e' w' → e'.fits a'.tmps → SameOff (dsts ops) a.tmps a'.tmps → a'.defers = a.defers → Q .normal a' w')
    (hQp : ∀ ch a' w', kp ch w' → a'.defers = a.defers → Q (.panic ch) a' w') (hL : ∀ d ∈ dsts ops, d < a.tmps.size)
    (h : vcDrawT P T ops e w kn kp) (hf : e.fits a.tmps) : (Code.region id ops.toArray true).wpIn (FW ro) 0 P Q a w := by
  unfold vcDrawT at h
  split at h
  · exact h.elim
  · rename_i hok
    unfold okDraw at hok
    simp only [Bool.and_eq_true] at hok
    obtain ⟨⟨⟨⟨⟨⟨hlook, hnd⟩, hlow⟩, hTn⟩, hsel⟩, hchain⟩, hfloat⟩ := hok
    have hTnd := nodupB_spec _ hTn
    have hpre : (preL T ops.zipIdx).Sublist ops := preL_sublist T ops
    have hnd' := nodupB_spec _ hnd
    have hlook' : ∀ o ∈ ops, looksB ops o = true := fun o ho => List.all_eq_true.1 hlook o ho
    have hsub : ∀ {l : List Oper}, l.Sublist ops → (dsts l).Sublist (dsts ops) := dsts_sublist
    have hndt : (dsts (preL T ops.zipIdx)).Nodup := (hsub hpre).nodup hnd'
    have hno : ∀ d ∈ dsts ops, (e.drop (dsts ops)).get d = none := fun d hd => by
      rw [get_drop, if_pos]; rw [memB_iff]; exact hd
    have hmemt : ∀ {i : Nat} {o : Oper}, ops[i]? = some o → i ∉ T → o ∈ preL T ops.zipIdx := fun ho him => preL_mem ho him
    have hidx : ∀ {o : Oper}, o ∈ preL T ops.zipIdx → ∃ i, i ∉ T ∧ ops[i]? = some o := fun ho => preL_idx ho
    obtain ⟨e1, hA, hs1, hout, hdet, hnoA⟩ := vcQ_out (preL T ops.zipIdx) (e.drop (dsts ops)) [] hndt (fun d hd => hno d ((hsub hpre).subset hd)) h
    obtain ⟨AL, hal, hALs, hALu, hALn, hfin⟩ := vcA_out (preL T ops.zipIdx) [] hndt hA
    obtain ⟨_, hF2, hF3, hF4⟩ := latesF_spec (P := P) (preL T ops.zipIdx) [] hndt (fun _ _ => rfl)
    have hLT : ∀ o ∈ lateL P (preL T ops.zipIdx) [], isAl P o = false ∧ o.guard = none ∧ ∃ x d, lateOf P (latesF P (preL T ops.zipIdx) []) o = some x ∧ o.dst = some d ∧ (latesF P (preL T ops.zipIdx) []).get d = some x :=
      fun o ho => ⟨(lateL_sub _ _ o ho).2.1, (lateL_sub _ _ o ho).2.2.1, hF3 o ho⟩
    have hLTc : ∀ o ∈ lateL P (preL T ops.zipIdx) [], cls P o.op = 0 ∧ isLoad o.op = false := fun o ho => by
      obtain ⟨_, _, x, d, hl, _⟩ := hLT o ho
      exact late_cls hl
    have hnone : ∀ i o d, ops[i]? = some o → ((isAl P o = true ∨ o ∈ lateL P (preL T ops.zipIdx) []) ∨ i ∈ T) → o.dst = some d → e1.get d = none := by
      intro i o d ho hc hd
      rcases Classical.em (i ∈ T) with him | him
      · have hnt : d ∉ dsts (preL T ops.zipIdx) := fun hdt => by
          obtain ⟨j, oj, hj, hjd⟩ := dsts_mem hdt
          obtain ⟨k, hkT, hk⟩ := hidx (List.mem_of_getElem? hj)
          have := same_dst hnd' ho hk hd hjd
          exact hkT (this ▸ him)
        rw [hout d hnt]
        exact hno d (mem_dsts hd (List.mem_of_getElem? ho))
      · rcases hc with hc | hc
        · exact hnoA o (hmemt ho him) hc d hd
        · exact absurd hc him
    have hf0 : (e.drop (dsts ops)).fits a.tmps := fits_drop hf _
    refine wpIn_region_any hm ?_
    have hinit : DInv P ops T a w e1 AL (lateL P (preL T ops.zipIdx) []) (latesF P (preL T ops.zipIdx) []) (Array.replicate ops.toArray.size false) a { w with drawn := w.drawn + 1 } := by
      refine ⟨by simp, fun j oj _ hl => ?_, fun t ht => getD_in (by simpa using chainOk_lt hchain t ht) (getD_replicate_false _ _), ?_, rfl, SameOff.refl _ _, ?_, ?_, ?_, ?_⟩
      · rw [getD_replicate_false] at hl; cases hl
      · exact (Below.refl _ w).drew
      · intro i o d _ hl; rw [getD_replicate_false] at hl; cases hl
      · intro o _ i _ hl; rw [getD_replicate_false] at hl; cases hl
      · intro i o d n _ hl; rw [getD_replicate_false] at hl; cases hl
      · exact ⟨fun _ => (0, 0), (fun p _ i d _ hl => by rw [getD_replicate_false] at hl; cases hl), (fun p _ q _ i j d c _ _ hl => by rw [getD_replicate_false] at hl; cases hl)⟩
    have hu0 : unl (Array.replicate ops.toArray.size false) = ops.toArray.size := by
      unfold unl
      have : (Array.replicate ops.toArray.size false).toList = List.replicate ops.toArray.size false := by simp
      rw [this, countP_not_replicate]; rfl
    refine dinv_any (e0 := e.drop (dsts ops)) hnd' hlook' hlow hchain hf0 (fun n hn => hout n fun hd => hn ((hsub hpre).subset hd)) hL
      (fun i o ho him => hdet o (hmemt ho him)) hnone hLT
      (fun i o d ho him hisal hd => hF2 o (hmemt ho him) hisal d hd)
      (fun t y hF => by
        rcases hF4 t y hF with h | ⟨o, ho, hd, hc⟩
        · cases h
        · obtain ⟨j, _, hj⟩ := hidx ho
          exact ⟨j, o, hj, hd, hc⟩)
      (fun i o ho him hisal => hal o (hmemt ho him) hisal) (fun p hp => ⟨(hALs p hp).1, (hALs p hp).2.2.1⟩) hALu ?_ _ _ _ _ hinit hu0
    -- behind the first part: but for those that come late
    intro listed a' w' f inv hall hu
    have hsz : listed.size = ops.length := inv.size
    have hclosed : ∀ j oj, ops[j]? = some oj → listed.getD j false = true → ∀ x ∈ oj.after, Region.binds .any x = true → listed.getD x.on false = true := inv.closed
    have hfl : ∀ i o, i ∉ T → ops[i]? = some o → listed.getD i true = false → floatB P o = true ∧ memB (sunk ops T) i = false := by
      intro i o him ho hun
      unfold floatersOk at hfloat
      have h1 := List.all_eq_true.1 hfloat i (List.mem_range.2 (List.getElem?_eq_some_iff.1 ho).1)
      split at h1
      · rename_i hs
        exact absurd ((memB_iff _ _).1 hs) him
      · split at h1
        · rename_i hs
          exact absurd (hall i him ((memB_iff _ _).1 hs)) (fun h => getD_tf hun h)
        · rename_i hs
          rw [ho] at h1
          exact ⟨h1, hs⟩
    let R : Nat → Value → Prop := fun n v => a'.tmps[n]? = some v ∨ Pend ops T listed n
    have hR1 : ∀ n v, e1.get n = some v → R n v := by
      intro n v hn
      by_cases hd : n ∈ dsts ops
      · obtain ⟨j, oj, hj, hjd⟩ := dsts_mem hd
        have hjal : isAl P oj = false := by
          cases hq : isAl P oj with
          | false => rfl
          | true => rw [hnone j oj n hj (.inl (.inl hq)) hjd] at hn; cases hn
        have hjlt : oj ∉ lateL P (preL T ops.zipIdx) [] := fun hq => by rw [hnone j oj n hj (.inl (.inr hq)) hjd] at hn; cases hn
        have hjm : j ∉ T := fun h => by rw [hnone j oj n hj (.inr h) hjd] at hn; cases hn
        have hjl := (List.getElem?_eq_some_iff.1 hj).1
        by_cases hlj : listed.getD j false = true
        · exact .inl (by rw [inv.det j oj n hj hlj hjal hjlt hjd]; exact hn)
        · exact .inr ⟨j, oj, hjm, hj, hjd, unl_false (by omega) hlj⟩
      · refine .inl ?_
        rw [inv.same.2 n (by rw [memB_false]; exact hd)]
        refine hf0 n v ?_
        rw [← hout n fun h => hd ((hsub hpre).subset h)]; exact hn
    obtain ⟨iv, hiv1, hiv2⟩ := inv.al
    have hlisted : ∀ p ∈ AL, ∃ j, ops[j]? = some p.1 ∧ listed.getD j false = true := fun p hp => by
      obtain ⟨j, hjm, hj⟩ := hidx (hALs p hp).2.1
      have hjl := (List.getElem?_eq_some_iff.1 hj).1
      refine ⟨j, hj, ?_⟩
      by_cases hlj : listed.getD j false = true
      · exact hlj
      · have := (hfl j p.1 hjm hj (unl_false (by omega) hlj)).1
        have h2 := (floatB_spec this).2.1
        rw [(hALs p hp).2.2.1] at h2; cases h2
    obtain ⟨e2, hR2, hk, hag⟩ := finA_pend (R := R) (iv := iv) _ _ e1 hR1 (fun x hx => by
      simp only [List.nil_append, List.mem_map] at hx
      obtain ⟨p, hp, rfl⟩ := hx
      obtain ⟨j, hj, hlj⟩ := hlisted p hp
      obtain ⟨d, hd⟩ := (hALs p hp).2.2.2
      obtain ⟨v, hv1, h2, h3, h4, hv2⟩ := hiv1 p hp j d hj hlj hd
      exact ⟨d, v, hd, .inl hv1, h2, h3, h4, hv2⟩) (by rw [List.nil_append, List.map_map]; exact hALn) (fun x hx y hy d c hd hc hdc => by
      simp only [List.nil_append, List.mem_map] at hx hy
      obtain ⟨p, hp, rfl⟩ := hx
      obtain ⟨q, hq, rfl⟩ := hy
      obtain ⟨j, hj, hlj⟩ := hlisted p hp
      obtain ⟨j', hj', hlj'⟩ := hlisted q hq
      exact hiv2 p hp q hq j j' d c hj hj' hlj hlj' hd hc hdc) (fun x _ d _ p hp => by cases hp) (hfin w' inv.below)
    have hs12 : Sub e1 e2 := fun n v hn => by
      rw [hag n ?_]
      · exact hn
      · intro x hx hxn
        simp only [List.nil_append, List.mem_map] at hx
        obtain ⟨p, hp, rfl⟩ := hx
        obtain ⟨j, hjm, hj⟩ := hidx (hALs p hp).2.1
        rw [hnone j p.1 n hj (.inl (.inl (hALs p hp).2.2.1)) hxn] at hn
        cases hn
    have he2n : ∀ i o d, ops[i]? = some o → (o ∈ lateL P (preL T ops.zipIdx) [] ∨ i ∈ T) → o.dst = some d → e2.get d = none := by
      intro i o d ho hc hd
      rw [hag d ?_]
      · exact hnone i o d ho (hc.elim (fun h => .inl (.inr h)) .inr) hd
      · intro x hx hxd
        simp only [List.nil_append, List.mem_map] at hx
        obtain ⟨p, hp, rfl⟩ := hx
        obtain ⟨j, hjm, hj⟩ := hidx (hALs p hp).2.1
        have hij := same_dst hnd' ho hj hd hxd
        subst hij
        have : o = p.1 := Option.some.inj (ho.symm.trans hj)
        rcases hc with hc | hc
        · have h1 := (hLT o hc).1
          rw [this, (hALs p hp).2.2.1] at h1; cases h1
        · exact hjm hc
    obtain ⟨e3, hR3, hk3, hs23, hag3, hlate⟩ := late_pend (R := R) (lateL P (preL T ops.zipIdx) []) e2 hR2 ((dsts_sublist (lateL_sublist _ _)).nodup hndt) (fun o ho => by
        obtain ⟨h1, h2, h3, d, hd⟩ := lateL_sub _ _ o ho
        obtain ⟨j, hjm, hj⟩ := hidx h1
        exact ⟨h3, (hLTc o ho).1, d, hd, he2n j o d hj (.inl ho) hd⟩) (fun o ho e' v d hR' hs hk' hrun hd => by
        obtain ⟨h1, h2, h3, _⟩ := lateL_sub _ _ o ho
        obtain ⟨j, hjm, hj⟩ := hidx h1
        have hjl := (List.getElem?_eq_some_iff.1 hj).1
        by_cases hlj : listed.getD j false = true
        · obtain ⟨v0, hv1, hv2⟩ := inv.late o ho j hj hlj
          have hagree : ∀ x ∈ o.op.operands, rho e' x = a'.eval x := by
            intro x hx
            have key : ∀ (l : List Operand), knownL e' l = true → x ∈ l → ∃ v, ev e' x = some v := by
              intro l
              induction l with
              | nil => intro _ h; cases h
              | cons y r ihr =>
                intro hk h
                simp only [knownL] at hk
                split at hk
                · rename_i v hv
                  cases h with
                  | head => exact ⟨v, hv⟩
                  | tail _ h => exact ihr hk h
                · cases hk
            obtain ⟨u, hu'⟩ := key _ hk' (by simpa using hx)
            unfold rho; rw [hu']
            cases x with
            | tmp t =>
              have hlk : t ∈ o.looksAt ops.toArray := by
                unfold Oper.looksAt
                exact List.mem_append_left _ (List.mem_filterMap.2 ⟨.tmp t, by simpa using hx, rfl⟩)
              have hnp : ¬ Pend ops T listed t := by
                rintro ⟨i, oi, hi, hoi, hid, hiun⟩
                obtain ⟨y, hy, hyb, hyo⟩ := looksB_spec (hlook' o (List.mem_of_getElem? hj)) hlk hoi hid
                have := hclosed j o hj hlj y hy hyb
                rw [hyo] at this
                exact getD_tf hiun this
              have := (hR' t u hu').resolve_right hnp
              simp [Act.eval, this]
            | const u => cases hu'; rfl
            | global g => cases hu'; rfl
            | func g => cases hu'; rfl
          have h4 := hrun w'
          rw [execOp_congr o (not_select hs) hagree, hv2 w'] at h4
          cases h4
          exact .inl (hv1 d hd)
        · exact .inr ⟨j, o, hjm, hj, hd, unl_false (by omega) hlj⟩) hk
    refine tail_any (fl := lateLoads ops T) (e := e3) (t := 0) hnd' hlook' hlow hchain hTnd hL hQn hQp f listed a' w' ⟨hsz, hclosed, fun k i h1 h2 => by omega, fun k i h1 h2 => inv.tun i (List.mem_of_getElem? h1), inv.defers, inv.same, hR3, ?_, ?_⟩ (by simpa using hk3) hu
    · intro k i o d hk _ ho hd
      have him := List.mem_of_getElem? hk
      rw [hag3 d ?_]
      · exact he2n i o d ho (.inr him) hd
      · intro hdl
        obtain ⟨j, oj, hj, hjd⟩ := dsts_mem hdl
        have hjl := List.mem_of_getElem? hj
        obtain ⟨h1, _⟩ := lateL_sub _ _ oj hjl
        obtain ⟨k', hkm, hk'⟩ := hidx h1
        have := same_dst hnd' ho hk' hd hjd
        exact hkm (this ▸ him)
    · intro i o him ho hun
      obtain ⟨hfb, hns⟩ := hfl i o him ho hun
      obtain ⟨hg, hnal, hsel', hcl⟩ := floatB_spec hfb
      rcases hdet o (hmemt ho him) with h1 | h1 | h1
      · rw [hnal] at h1; cases h1
      · obtain ⟨_, hkn, v, hv1, hv2⟩ := hlate o h1
        exact ⟨hfb, hkn, v, hv1, hv2 w', fun _ => hv2, fun hl => by rw [(hLTc o h1).2] at hl; cases hl⟩
      · obtain ⟨v, hv, hc⟩ := h1
        have hwant : wantE ops e1 o = some true := by unfold wantE; rw [hg]
        rcases hc with ⟨_, hs, hkn, hpl, _⟩ | ⟨hw, _⟩
        · have hs13 := hs12.trans hs23
          obtain ⟨hk2, hr2⟩ := knownL_sub hs13 _ hkn
          have hex := execOp_congr o (not_select hs) (fun x hx => hr2 x (by simpa using hx))
          refine ⟨hfb, hk2, v, fun d hd => hs13 _ _ (hv d hd), ?_, fun hl w'' => ?_, fun hl => ⟨?_, ?_⟩⟩
          · rw [← hex]
            rcases hcl with hcl | ⟨hcl, _⟩
            · exact hpl.1 hcl w'
            · exact hpl.2 hcl w' inv.below
          · rw [← hex]
            rcases hcl with hcl | ⟨hcl, _⟩
            · exact hpl.1 hcl w''
            · rw [hcl] at hl; cases hl
          · unfold lateLoads
            have hmT : memB T i = false := by rw [memB_false]; exact him
            refine List.mem_filter.2 ⟨?_, by simp [hl, hns, hmT]⟩
            rw [List.mem_zipIdx_iff_getElem?]
            exact ho
          · rcases hcl with hcl | ⟨_, hd⟩
            · rw [isLoad_cls hl] at hcl; cases hcl
            · exact hd
        · rw [hwant] at hw; cases hw
theorem vcDraw_sound {ro : Option Nat} {P : Program} {plan : Plan} {id : Nat} {ops : List Oper} {kn : Env → World → Prop} {kp : List PanicEntry → World → Prop} {Q : Exit → Act → World → Prop} {a : Act} {w : World} {e : Env}
    (hm : P.follows .mixedOrders = true)
    (hQn : ∀ e' a' w', kn e' w' → e'.fits a'.tmps → SameOff (dsts ops) a.tmps a'.tmps → a'.defers = a.defers → Q .normal a' w')
    (hQp : ∀ ch a' w', kp ch w' → a'.defers = a.defers → Q (.panic ch) a' w') (hL : ∀ d ∈ dsts ops, d < a.tmps.size)
    (h : vcDraw P plan id ops e w kn kp) (hf : e.fits a.tmps) : (Code.region id ops.toArray true).wpIn (FW ro) 0 P Q a w := by
  unfold vcDraw at h
  split at h
  · exact vcDrawT_sound hm hQn hQp hL h hf
  · split at h
    · exact vcSeqT_sound hm hQn hQp hL h hf
    · split at h
      · exact vcSeqO_sound hm hQn hQp hL h hf
      · split at h
        · exact vcFltT_sound hm hQn hQp hL h hf
        · exact vcDrawT_sound hm hQn hQp hL h hf
  · exact vcDrawT_sound hm hQn hQp hL h hf

/-! ### Code -/
def QOf (l : List Nat) (pl : Bool) (ds : List Deferred) (a0 : Act) (kn : List Deferred → Env → World → Prop) (kx : Nat → List Deferred → Env → World → Prop) (kr : List Deferred → Env → World → Prop) (kp : List PanicEntry → World → Prop) : Exit → Act → World → Prop
  | .normal, a, w => ∃ e, e.fits a.tmps ∧ SameOff l a0.tmps a.tmps ∧ (pl = true → a.defers = ds) ∧ kn a.defers e w
  | .exit id, a, w => ∃ e, e.fits a.tmps ∧ SameOff l a0.tmps a.tmps ∧ (pl = true → a.defers = ds) ∧ kx id a.defers e w
  | .ret, a, w => ∃ e, e.fits a.tmps ∧ SameOff l a0.tmps a.tmps ∧ (pl = true → a.defers = ds) ∧ kr a.defers e w
  | .panic ch, a, w => a.defers = [] ∧ kp ch w
  | _, _, _ => False
theorem kpD_out {kp : List PanicEntry → World → Prop} {ds : List Deferred} {ch : List PanicEntry} {w : World} (h : kpD kp ds ch w) : ds = [] ∧ kp ch w := by
  cases ds with
  | nil => exact ⟨rfl, h⟩
  | cons d r => exact h.elim
section scope
variable {P : Program} {b : Frame} {a : Act} {k : List Item} {cs : List Frame} {w : World} {Q : Exit → Act → World → Prop}
theorem stepR_scope {c : Code} : step P (lone (b.atR a (.code (.scope c) :: k)) cs w) = .next (lone (b.atR a (.code c :: .inScope c :: k)) cs w) :=
  step_lone_go (by simp [stepG, stepG.exec, Frame.atR])
theorem stepR_inScope {c : Code} : step P (lone (b.atR a (.inScope c :: k)) cs w) = .next (lone (b.atR a k) cs w) :=
  step_lone_go (by simp [stepG, stepG.exec, Frame.atR])
theorem wpIn_scope_straight {F : Fence} {n : Nat} {c : Code} (h : c.wpIn F n P (Exit.noGoto Q) a w) : (Code.scope c).wpIn F n P Q a w := by
  intro b k cs hro hb hr
  have h0 : (lone (b.atR a (.code (.scope c) :: k)) cs w).fenced P F := fenced_calm hb hr rfl
  obtain ⟨e, a₁, w₁, hq, harr⟩ := h b (.inScope c :: k) cs hro hb hr
  cases e with
  | normal => exact ⟨.normal, a₁, w₁, hq, .head h0 stepR_scope (StepsIn.trans harr (.one (fenced_calm hb hr rfl) stepR_inScope))⟩
  | exit id =>
    have hx : exitTo id (.inScope c :: k) = exitTo id k := by simp [exitTo]
    exact ⟨.exit id, a₁, w₁, hq, fun k' hk => .head h0 stepR_scope (harr.1 k' (by rw [hx]; exact hk)),
      fun hr' hk => let ⟨k₁, h1, h2⟩ := harr.2 hr' (by rw [hx]; exact hk); ⟨k₁, h1, .head h0 stepR_scope h2⟩⟩
  | goto l => exact hq.elim
  | ret => exact ⟨_, a₁, w₁, hq, .of_steps (.one h0 stepR_scope) harr⟩
  | panic ch => exact ⟨_, a₁, w₁, hq, .of_steps (.one h0 stepR_scope) harr⟩
  | outgrown => exact ⟨_, a₁, w₁, hq, .of_steps (.one h0 stepR_scope) harr⟩
end scope
theorem asAll_out {P : Program} {ty : Nat → Option TypeId} {k : Env → Prop} {a : Array Value} : ∀ (L : List Nat) (i : Nat) (s : List Value) (acc : Env), acc.fits a → (∀ j n, L[j]? = some n → a[n]? = some (s.getD (i + j) undef)) → asAll P ty k L i s acc →
    ∃ e, e.fits a ∧ k e
  | [], i, s, acc, hf, _, h => ⟨acc, hf, h⟩
  | n :: r, i, s, acc, hf, hL, h => by
    have h0 : a[n]? = some (s.getD i undef) := by simpa using hL 0 n rfl
    have hf' : Env.fits ((n, s.getD i undef) :: acc) a := by
      intro x v hx
      rw [get_cons] at hx
      split at hx
      · rename_i he; subst he; cases hx; exact h0
      · exact hf x v hx
    have hL' : ∀ j m, r[j]? = some m → a[m]? = some (s.getD (i + 1 + j) undef) := fun j m hj => by
      have := hL (j + 1) m (by simpa using hj)
      rwa [show i + 1 + j = i + (j + 1) by omega]
    simp only [asAll] at h
    split at h
    · exact asAll_out r (i + 1) s _ hf' hL' h.out
    · exact asAll_out r (i + 1) s _ hf' hL' h
theorem getAll_fits {e : Env} {a : Array Value} (hf : e.fits a) : ∀ (L : List Nat) (s : List Value), getAll e L = some s → s.length = L.length ∧ ∀ (j : Nat) (n : Nat), L[j]? = some n → a[n]? = some (s.getD j undef)
  | [], s, h => by simp [getAll] at h; subst h; exact ⟨rfl, fun j n hj => by simp at hj⟩
  | n :: r, s, h => by
    simp only [getAll] at h
    split at h
    · rename_i v hv
      split at h
      · rename_i l hl
        cases h
        obtain ⟨h1, h2⟩ := getAll_fits hf r l hl
        refine ⟨by simp [h1], fun j m hj => ?_⟩
        cases j with
        | zero => simp at hj; subst hj; simpa using hf n v hv
        | succ j => simp at hj; simpa using h2 j m hj
      · cases h
    · cases h
theorem fits_append {e f : Env} {a : Array Value} (he : e.fits a) (hf : f.fits a) : Env.fits (e ++ f) a := by
  intro n v hn
  rw [get_append] at hn
  split at hn
  · rename_i u hu; cases hn; exact he n v hu
  · exact hf n v hn
def okCode (N : Nat) (c : Code) : Bool := dstBelow N (written c)
theorem dstBelow_spec {N : Nat} : ∀ {l : List Nat}, dstBelow N l = true → ∀ d ∈ l, d < N
  | [], _, d, hd => by cases hd
  | x :: r, h, d, hd => by
    simp only [dstBelow] at h
    split at h
    · rename_i hb
      cases hd with
      | head => simpa [Nat.blt_eq] using hb
      | tail _ hd => exact dstBelow_spec h d hd
    · cases h
theorem puts_list : ∀ (l : List (Nat × Value)) (t : Array Value), (l.map (·.1)).Nodup → (∀ p ∈ l, p.1 < t.size) →
    (l.foldl (fun (tmps : Array Value) (x : Nat × Value) => tmps.setIfInBounds x.1 x.2) t).size = t.size ∧
    (∀ p ∈ l, (l.foldl (fun (tmps : Array Value) (x : Nat × Value) => tmps.setIfInBounds x.1 x.2) t)[p.1]? = some p.2) ∧
    ∀ n, n ∉ l.map (·.1) → (l.foldl (fun (tmps : Array Value) (x : Nat × Value) => tmps.setIfInBounds x.1 x.2) t)[n]? = t[n]?
  | [], t, _, _ => ⟨rfl, (fun p hp => nomatch hp), (fun n _ => rfl)⟩
  | q :: r, t, hnd, hlt => by
    simp only [List.map_cons, List.nodup_cons] at hnd
    obtain ⟨h1, h2, h3⟩ := puts_list r (t.setIfInBounds q.1 q.2) hnd.2 (fun p hp => by simpa using hlt p (by simp [hp]))
    simp only [List.foldl_cons]
    refine ⟨by rw [h1]; simp, fun p hp => ?_, fun n hn => ?_⟩
    · cases hp with
      | head => rw [h3 _ hnd.1]; exact Array.getElem?_setIfInBounds_self_of_lt (hlt _ (by simp))
      | tail _ hp => exact h2 p hp
    · simp only [List.map_cons, List.mem_cons, not_or] at hn
      rw [h3 n hn.2]
      exact Array.getElem?_setIfInBounds_ne (Ne.symm hn.1)
theorem zip_fst : ∀ (l : List Nat) (s : List Value), l.length = s.length → (l.zip s).map (·.1) = l
  | [], _, _ => rfl
  | x :: l, [], h => by simp at h
  | x :: l, y :: s, h => by simp [zip_fst l s (by simpa using h)]
theorem puts_fits {ps : Array Nat} {args tmps : Array Value} (hs : args.size = ps.size) (hnd : ps.toList.Nodup) (hlt : ∀ p ∈ ps.toList, p < tmps.size) :
    ((ps.zip args).foldl (fun tmps (t, a) => tmps.setIfInBounds t a) tmps).size = tmps.size ∧
    (∀ j n, ps.toList[j]? = some n → ((ps.zip args).foldl (fun tmps (t, a) => tmps.setIfInBounds t a) tmps)[n]? = some (args.toList.getD (0 + j) undef)) ∧
    ∀ n, n ∉ ps.toList → ((ps.zip args).foldl (fun tmps (t, a) => tmps.setIfInBounds t a) tmps)[n]? = tmps[n]? := by
  have e : ((ps.zip args).foldl (fun (tmps : Array Value) (x : Nat × Value) => match x with | (t, a) => tmps.setIfInBounds t a) tmps) = ((ps.toList.zip args.toList).foldl (fun (tmps : Array Value) (x : Nat × Value) => tmps.setIfInBounds x.1 x.2) tmps) := by
    rw [← Array.foldl_toList, Array.toList_zip]
  have hz : (ps.toList.zip args.toList).map (·.1) = ps.toList := zip_fst _ _ (by simp [hs])
  obtain ⟨h1, h2, h3⟩ := puts_list (ps.toList.zip args.toList) tmps (by rw [hz]; exact hnd) (fun p hp => hlt _ (List.of_mem_zip hp).1)
  rw [hz] at h3
  refine ⟨by rw [← h1]; exact congrArg Array.size e, fun j n hj => ?_, fun n hn => by rw [← h3 n hn]; exact congrArg (·[n]?) e⟩
  have hjl : j < args.toList.length := by
    have := (List.getElem?_eq_some_iff.1 hj).1
    simp at this ⊢; omega
  have hp : (n, args.toList[j]) ∈ ps.toList.zip args.toList := by
    refine List.mem_of_getElem? (i := j) ?_
    rw [List.getElem?_zip_eq_some]
    exact ⟨hj, List.getElem?_eq_getElem hjl⟩
  have := h2 _ hp
  rw [Nat.zero_add, List.getD_eq_getElem?_getD, List.getElem?_eq_getElem hjl]
  exact (congrArg (·[n]?) e).trans this
theorem leapR_out {p : Option Code} : ∀ {l : List (Nat × Prop)}, leapR p l → ∃ i k, (i, k) ∈ l ∧ p = some (.exit i) ∧ k
  | [], h => h.elim
  | (i, k) :: r, h => by
    rcases h with ⟨h1, h2⟩ | h
    · exact ⟨i, k, by simp, h1, h2⟩
    · obtain ⟨j, k', h1, h2⟩ := leapR_out h
      exact ⟨j, k', by simp [h1], h2⟩
theorem range_sound {P : Program} {plan : Plan} {N : Nat} {g : Operand} {ps : Array Tmp} {x y : Code}
    {kn : List Deferred → Env → World → Prop} {kx : Nat → List Deferred → Env → World → Prop} {kr : List Deferred → Env → World → Prop} {kp : List PanicEntry → World → Prop} {e : Env} {a : Act} {w : World}
    (ihx : ∀ (ro : Nat) (kn : List Deferred → Env → World → Prop) (kx : Nat → List Deferred → Env → World → Prop) (kr : List Deferred → Env → World → Prop) (kp : List PanicEntry → World → Prop) (e : Env) (a : Act) (w : World),
      (some ro = none ∨ plainC x = true) → (∀ d ∈ written x, d < N) → a.tmps.size = N → e.fits a.tmps → vc P plan x kn kx kr kp a.defers e w → x.wpIn (FW (some ro)) 0 P (QOf (written x) (plainC x) a.defers a kn kx kr kp) a w)
    (ihy : ∀ (ro : Nat) (kn : List Deferred → Env → World → Prop) (kx : Nat → List Deferred → Env → World → Prop) (kr : List Deferred → Env → World → Prop) (kp : List PanicEntry → World → Prop) (e : Env) (a : Act) (w : World),
      (some ro = none ∨ plainC y = true) → (∀ d ∈ written y, d < N) → a.tmps.size = N → e.fits a.tmps → vc P plan y kn kx kr kp a.defers e w → y.wpIn (FW (some ro)) 0 P (QOf (written y) (plainC y) a.defers a kn kx kr kp) a w)
    (hN : ∀ d ∈ written (.rangeFunc g ps x y), d < N) (hs : a.tmps.size = N) (hf : e.fits a.tmps) (h : vc P plan (.rangeFunc g ps x y) kn kx kr kp a.defers e w) :
    (Code.rangeFunc g ps x y).wpIn (FW none) 0 P (QOf (written (.rangeFunc g ps x y)) (plainC (.rangeFunc g ps x y)) a.defers a kn kx kr kp) a w := by
  simp only [vc] at h
  split at h
  · exact h.elim
  rename_i hpl
  simp only [Bool.and_eq_true] at hpl
  obtain ⟨⟨hpx, hpy⟩, hnd⟩ := hpl
  have hnd' := nodupB_spec _ hnd
  split at h
  · exact h.elim
  rename_i gv hgv
  simp only [written, List.mem_append] at hN
  have hev : a.eval g = gv := by
    cases g with
    | tmp n => have := hf n _ hgv; simp [Act.eval, this]
    | const v => simp [ev] at hgv; simp [Act.eval, hgv]
    | global g => simp [ev] at hgv; simp [Act.eval, hgv]
    | func f => simp [ev] at hgv; simp [Act.eval, hgv]
  obtain ⟨f, lb, rb, rfl, hcall, hR⟩ := h
  refine wpIn_rangeFunc fun fn _ => ?_
  have h3 := hR (fun s p => .loop { state := s, pending := p, fn, tmps := a.tmps, params := ps, assign := x, body := y, defers := w.heap.size }) (fun s p => ⟨_, rfl⟩) ?_
  · refine ⟨w.heap.size + 1, [{ target := .collected w.heap.size, args := #[] }], ((w.alloc (.deferred (some []))).alloc (.loop { state := .ready, pending := none, fn, tmps := a.tmps, params := ps, assign := x, body := y, defers := w.heap.size })), { target := .fn (.func f) rb, args := lb ++ #[Value.func (.yield (w.heap.size + 1)) #[] #[]] }, ((w.alloc (.deferred (some []))).alloc (.loop { state := .ready, pending := none, fn, tmps := a.tmps, params := ps, assign := x, body := y, defers := w.heap.size })), f, lb ++ #[Value.func (.yield (w.heap.size + 1)) #[] #[]] ++ rb, ((w.alloc (.deferred (some []))).alloc (.loop { state := .ready, pending := none, fn, tmps := a.tmps, params := ps, assign := x, body := y, defers := w.heap.size })), run_enterLoop_outer fn a.tmps ps x y, ?_, fun _ _ => trivial, (show (callFunc f (lb ++ #[Value.func (.yield (w.heap.size + 1)) #[] #[]] ++ rb)).run P _ = _ from run_callFunc hcall _ _), (fun h => by cases h), ?_⟩
    · simp only [resolve, hev, Deferred.ofValue]
      simp [Act.eval]
    · refine CallsIn.mono (calls_FW (ro := none) h3) ?_
      rintro en W' ⟨v, rfl, s, p, hne, hrec, hk⟩
      refine ⟨p, _, run_endLoop hrec hne, ?_⟩
      rcases hk with ⟨rfl, hk⟩ | ⟨rfl, hk⟩ | hk
      · exact ⟨e, hf, SameOff.refl _ _, (fun h => by cases h), hk⟩
      · exact wpIn_ret ⟨e, hf, SameOff.refl _ _, (fun h => by cases h), hk⟩
      · obtain ⟨i, k, hm, rfl, hk⟩ := leapR_out hk
        simp only [List.map_map, List.mem_map, Function.comp] at hm
        obtain ⟨i', _, he⟩ := hm
        cases he
        exact wpIn_exit ⟨e, hf, SameOff.refl _ _, (fun h => by cases h), hk⟩
  · intro args W k hsz hrec hround
    have hrun : (callSem (.func (.yield (w.heap.size + 1)) #[] #[]) args).run P W = (Instr.yield (w.heap.size + 1) args).run P W := by
      simp [callSem, Deferred.ofValue, invoke]
    rw [Yield_iff]; unfold YieldR
    rw [hrun, run_yield hrec hsz]
    simp only
    obtain ⟨hq1, hq2, hq3⟩ := puts_fits (tmps := a.tmps) hsz hnd' (fun p hp => by rw [hs]; exact hN p (.inl (.inl hp)))
    generalize ((ps.zip args).foldl (fun tmps (t, a) => tmps.setIfInBounds t a) a.tmps) = tm at *
    obtain ⟨acc, hfa, hvc⟩ := asAll_out ps.toList 0 args.toList [] (fun n v hn => by cases hn) hq2 hround
    have hfb : (e.drop ps.toList).fits tm := by
      intro n v hn
      rw [get_drop] at hn
      split at hn
      · cases hn
      · rename_i hmb
        rw [hq3 n (by rw [← memB_false]; simpa using hmb)]
        exact hf n v hn
    refine roundIn_of_wpIn (F := Fence.wide) trivial ?_
    refine wpIn_mono (F := FW (some (w.heap.size + 1))) (ihx (w.heap.size + 1) _ _ _ _ _ { tmps := tm, defers := [] } W (.inr hpx) (fun d hd => hN d (.inl (.inr hd))) (by simp only; rw [hq1, hs]) (fits_append hfa hfb) hvc) fun ex a1 w1 hq => ?_
    cases ex with
    | normal =>
      obtain ⟨e1, hf1, hso1, hd1, hr1, hvc1⟩ := hq
      refine ⟨_, run_beginRound hr1 rfl, ?_⟩
      have hd1' := hd1 hpx
      simp only at hd1'
      refine wpIn_mono (F := FW (some (w.heap.size + 1))) (ihy (w.heap.size + 1) _ _ _ _ _ a1 _ (.inr hpy) (fun d hd => hN d (.inr hd)) (by rw [hso1.1]; simp only; rw [hq1, hs]) hf1 (by rw [hd1']; exact hvc1)) fun ex2 a2 w2 hq2 => ?_
      cases ex2 with
      | normal => obtain ⟨e2, hf2, hso2, hd2, hr2, hk2⟩ := hq2; exact ⟨_, _, run_endRound none hr2, hk2⟩
      | ret => obtain ⟨e2, hf2, hso2, hd2, hr2, hk2⟩ := hq2; exact ⟨_, _, run_endRound (some .ret) hr2, hk2⟩
      | exit i => obtain ⟨e2, hf2, hso2, hd2, hr2, hk2⟩ := hq2; exact ⟨_, _, run_endRound (some (.exit i)) hr2, hk2⟩
      | goto l => exact hq2.elim
      | panic ch => exact hq2.2.elim
      | outgrown => exact hq2.elim
    | exit i => obtain ⟨e2, hf2, hso2, hd2, hk2⟩ := hq; exact hk2.elim
    | ret => obtain ⟨e2, hf2, hso2, hd2, hk2⟩ := hq; exact hk2.elim
    | goto l => exact hq.elim
    | panic ch => exact hq.2.elim
    | outgrown => exact hq.elim
theorem sel_head {ro : Option Nat} {P : Program} {ops : Array Oper} {rest : List Nat} {o : Oper} {e : Env} {a : Act} {w : World} {K : Value → World → Prop} (ho : ops[0]? = some o) (hg : o.guard = none) (h : vSel P e o w K) (hf : e.fits a.tmps) :
    ∃ v w', K v w' ∧ ∀ (b : Frame) (k : List Item) (cs : List Frame), b.roundOf = ro → step P (lone (b.atR a (.inRegion ops (0 :: rest) :: k)) cs w) = .next (lone (b.atR (a.put o.dst v) (.inRegion ops rest :: k)) cs w') := by
  have hfin : ∀ (b : Frame) (k : List Item) v, (b.atR a (.inRegion ops (0 :: rest) :: k)).finish v = b.atR (a.put o.dst v) (.inRegion ops rest :: k) := by
    intro b k v; rw [Frame.finish_atR, ho]; rfl
  have hw : Region.wanted o (yielded ops a.tmps) = true := by simp only [Region.wanted, hg]
  obtain ⟨dst, op, type, pos, after, guard⟩ := o
  dsimp only at hg hfin
  subst hg
  unfold vSel at h
  dsimp only at h
  split at h
  · rename_i cases
    split at h
    · rename_i c hc hkn
      obtain ⟨cs0⟩ := cases
      dsimp only at hc
      subst hc
      have hag := rho_agree hf _ hkn
      have hch : rho e c.chan = a.eval c.chan := hag c.chan (by simp [Op.operands])
      split at h
      · rename_i q z hq hz
        obtain ⟨cap, buf, s, r, hb, h⟩ := h
        have hrun : ∀ ro', (({ dst, op := .select #[c] false, type, pos, after, guard := none } : Oper).semAt ro' a.eval).run P w = .ok (.comm #[{ chan := .chan (some q), send := c.send.map a.eval, zero := z }] false .select) w := fun ro' => by
          have e1 : ({ dst, op := .select #[c] false, type, pos, after, guard := none } : Oper).semAt ro' a.eval = execOp a.eval { dst, op := .select #[c] false, type, pos, after, guard := none } := by
            cases ro' <;> first | exact Oper.semAt_none _ _ | exact Oper.semAt_some _ _ _ (fun _ h => by cases h)
          rw [e1]
          have hz' := run_zero hz w
          rw [hch] at hq
          simp only [execOp, Sem.run_bind]
          have hm := run_mapM (P := P) (fun s : SelectCase => (do pure { chan := a.eval s.chan, send := s.send.map a.eval, zero := ← zeroValue s.elem : CommCase } : Sem CommCase)) (fun _ => { chan := .chan (some q), send := c.send.map a.eval, zero := z }) w #[c] (fun x hx => by
            have : x = c := by simpa using hx
            subst this
            simp [hz', hq])
          rw [hm]
          simp
        have hgo : ∀ (b : Frame) (k : List Item) (cs : List Frame), ∃ es, stepG P true (Conc.G (b.atR a (.inRegion ops (0 :: rest) :: k)) cs) w = .comm (Conc.G (b.atR a (.inRegion ops (0 :: rest) :: k)) cs) #[{ chan := .chan (some q), send := c.send.map a.eval, zero := z }] false .select w es := fun b k cs => by
          have hg := stepGR_op (P := P) (b := b) (k := k) (cs := cs) (w := w) (rest := rest) ho hw
          unfold Conc.G
          rw [hg]
          simp only [stepG.apply, Sem.runT_eq, hrun, if_true]
          exact ⟨_, rfl⟩
        cases hsd : c.send with
        | some x =>
          rw [hsd] at h hgo
          dsimp only at h
          obtain ⟨hroom, h⟩ := h
          have hx : rho e x = a.eval x := hag x (by simp [Op.operands, hsd])
          rw [hx] at h
          refine ⟨_, _, h, fun b k cs _ => ?_⟩
          obtain ⟨es, hes⟩ := hgo b k cs
          rw [step_sel_send hes rfl rfl hb hroom, hfin]; rfl
        | none =>
          rw [hsd] at h hgo
          dsimp only at h
          rcases h with ⟨hsome, h⟩ | ⟨rfl, h⟩
          · refine ⟨_, _, h, fun b k cs _ => ?_⟩
            obtain ⟨es, hes⟩ := hgo b k cs
            rw [step_sel_recv hes rfl rfl hb hsome, hfin]; rfl
          · refine ⟨_, _, h, fun b k cs _ => ?_⟩
            obtain ⟨es, hes⟩ := hgo b k cs
            rw [step_sel_none hes rfl rfl hb, hfin]
      · exact h.elim
    · exact h.elim
  · exact h.elim
theorem vc_sound {P : Program} {plan : Plan} (hm : P.follows .mixedOrders = true) {N : Nat} : ∀ (c : Code) (ro : Option Nat) (kn : List Deferred → Env → World → Prop) (kx : Nat → List Deferred → Env → World → Prop) (kr : List Deferred → Env → World → Prop) (kp : List PanicEntry → World → Prop) (e : Env) (a : Act) (w : World),
    (ro = none ∨ plainC c = true) → (∀ d ∈ written c, d < N) → a.tmps.size = N → e.fits a.tmps → vc P plan c kn kx kr kp a.defers e w → c.wpIn (FW ro) 0 P (QOf (written c) (plainC c) a.defers a kn kx kr kp) a w := by
  intro c
  induction c with
  | skip =>
    intro ro kn kx kr kp e a w hro hN hs hf h
    exact wpIn_skip ⟨e, hf, SameOff.refl _ _, fun _ => rfl, h⟩
  | region id ops draw =>
    intro ro kn kx kr kp e a w hro hN hs hf h
    cases draw with
    | false =>
      simp only [vc] at h
      unfold vcHd at h
      split at h
      · rename_i he
        have e1 : ops = #[] := Array.toList_inj.1 (by rw [he])
        subst e1
        exact wpIn_region_list ⟨e, hf, SameOff.refl _ _, fun _ => rfl, h⟩
      rename_i o r he
      split at h
      · rename_i hsel hgd
        obtain ⟨v, w', hk, hstep⟩ := sel_head (ro := ro) (ops := ops) (rest := List.range' 1 r.length) (by rw [← Array.getElem?_toList, he]; rfl) hgd h hf
        have hin : ∀ d, o.dst = some d → d ∈ dsts ops.toList := fun d hd => mem_dsts hd (by rw [he]; exact List.mem_cons_self)
        have hsz : ∀ d, o.dst = some d → d < a.tmps.size := fun d hd => by rw [hs]; exact hN d (hin d hd)
        have := vcOps_sound (ro := ro) (Q := QOf (dsts ops.toList) true a.defers a kn kx kr kp) (a0 := a) (L := dsts ops.toList) (fun e' a' w' hk hf' hso hd => ⟨e', hf', hso, fun _ => hd, by rw [hd]; exact hk⟩) (fun ch a' w' hk hd => ⟨hd.trans (kpD_out hk).1, (kpD_out hk).2⟩)
          (fun d hd => by rw [hs]; exact hN d hd) r (e.put o.dst v) (a.put o.dst v) w' (fun d hd => by rw [he]; simp only [dsts]; split <;> simp [hd]) hk (fits_act hf v hsz) ((SameOff.refl _ _).trans (SameOff.put a v hin)) (by rw [put_defers])
        have hq : QOf (written (.region id ops false)) (plainC (.region id ops false)) a.defers a kn kx kr kp = QOf (dsts ops.toList) true a.defers a kn kx kr kp := rfl
        rw [hq]
        rw [Array.toArray_toList, ← wpOpsIn_eq_wpListIn (ops := ops) r 1 (fun j => by rw [← Array.getElem?_toList, he, Nat.add_comm, List.getElem?_cons_succ])] at this
        intro b k cs hro' hb hr
        obtain ⟨x, a', w3, hq3, harr⟩ := wp_opsIn _ _ _ this b k cs hro' hb hr
        have hsize : List.range ops.size = 0 :: List.range' 1 r.length := by
          have : ops.size = r.length + 1 := by rw [← Array.length_toList, he]; rfl
          rw [this, List.range_eq_range', List.range'_succ]
        refine ⟨x, a', w3, hq3, .of_steps (.head (fenced_calm hb hr rfl) stepR_region ?_) harr⟩
        rw [hsize]
        exact .one (fun g hg => by
          refine ⟨fun h => by simp [FW] at h, Or.inl trivial, fun _ _ => trivial, fun _ h => by simp [FW] at h⟩) (hstep b k cs hro')
      refine wpIn_region_list ?_
      have := vcOps_sound (ro := ro) (Q := QOf (dsts ops.toList) true a.defers a kn kx kr kp) (a0 := a) (L := dsts ops.toList) (fun e' a' w' hk hf' hso hd => ⟨e', hf', hso, fun _ => hd, by rw [hd]; exact hk⟩) (fun ch a' w' hk hd => ⟨hd.trans (kpD_out hk).1, (kpD_out hk).2⟩)
        (fun d hd => by rw [hs]; exact hN d hd) ops.toList e a w (fun d hd => hd) h hf (SameOff.refl _ _) rfl
      simpa [written, plainC] using this
    | true =>
      simp only [vc] at h
      have := vcDraw_sound (ro := ro) (id := id) (Q := QOf (dsts ops.toList) true a.defers a kn kx kr kp) hm (fun e' a' w' hk hf' hso hd => ⟨e', hf', hso, fun _ => hd, by rw [hd]; exact hk⟩) (fun ch a' w' hk hd => ⟨hd.trans (kpD_out hk).1, (kpD_out hk).2⟩)
        (fun d hd => by rw [hs]; exact hN d hd) h hf
      simpa [written, plainC] using this
  | seq x y ihx ihy =>
    intro ro kn kx kr kp e a w hro hN hs hf h
    simp only [vc] at h
    simp only [written] at hN ⊢
    have hpx : ∀ {b : Bool}, (match plainC x with | true => plainC y | false => false) = true → plainC x = true ∧ plainC y = true := fun h => by cases hx : plainC x <;> rw [hx] at h <;> simp_all
    have hpl : ro = none ∨ (plainC x = true ∧ plainC y = true) := hro.imp id (fun h => hpx (b := true) h)
    refine wpIn_seq (wpIn_mono (ihx ro _ _ _ _ e a w (hpl.imp id And.left) (fun d hd => hN d (by simp [hd])) hs hf h) fun ex a' w' hq => ?_)
    have hl : ∀ n ∈ written x, n ∈ written x ++ written y := fun n hn => by simp [hn]
    have hr : ∀ n ∈ written y, n ∈ written x ++ written y := fun n hn => by simp [hn]
    cases ex with
    | normal =>
      obtain ⟨e', hf', hso, hd, hk⟩ := hq
      refine wpIn_mono (ihy ro _ _ _ _ e' a' w' (hpl.imp id And.right) (fun d hd => hN d (by simp [hd])) (by rw [hso.1, hs]) hf' hk) fun ex2 a2 w2 hq2 => ?_
      cases ex2 with
      | normal => obtain ⟨e2, hf2, hso2, hd2, hk2⟩ := hq2; exact ⟨e2, hf2, (hso.mono hl).trans (hso2.mono hr), fun h => (hd2 (hpx (b := true) h).2).trans (hd (hpx (b := true) h).1), hk2⟩
      | exit i => obtain ⟨e2, hf2, hso2, hd2, hk2⟩ := hq2; exact ⟨e2, hf2, (hso.mono hl).trans (hso2.mono hr), fun h => (hd2 (hpx (b := true) h).2).trans (hd (hpx (b := true) h).1), hk2⟩
      | ret => obtain ⟨e2, hf2, hso2, hd2, hk2⟩ := hq2; exact ⟨e2, hf2, (hso.mono hl).trans (hso2.mono hr), fun h => (hd2 (hpx (b := true) h).2).trans (hd (hpx (b := true) h).1), hk2⟩
      | panic ch => exact hq2
      | goto l => exact hq2
      | outgrown => exact hq2
    | exit i => obtain ⟨e2, hf2, hso2, hd2, hk2⟩ := hq; exact ⟨e2, hf2, hso2.mono hl, fun h => hd2 (hpx (b := true) h).1, hk2⟩
    | ret => obtain ⟨e2, hf2, hso2, hd2, hk2⟩ := hq; exact ⟨e2, hf2, hso2.mono hl, fun h => hd2 (hpx (b := true) h).1, hk2⟩
    | panic ch => exact hq
    | goto l => exact hq
    | outgrown => exact hq
  | cond c x y ihx ihy =>
    intro ro kn kx kr kp e a w hro hN hs hf h
    simp only [vc] at h
    simp only [written] at hN ⊢
    have hl : ∀ n ∈ written x, n ∈ written x ++ written y := fun n hn => by simp [hn]
    have hr : ∀ n ∈ written y, n ∈ written x ++ written y := fun n hn => by simp [hn]
    split at h
    · rename_i t ht
      have hev : a.eval c = .bool t := by
        cases c with
        | tmp n => have := hf n _ ht; simp [Act.eval, this]
        | const v => simp [ev] at ht; simp [Act.eval, ht]
        | global g => simp [ev] at ht
        | func f => simp [ev] at ht
      have hpx : (match plainC x with | true => plainC y | false => false) = true → plainC x = true ∧ plainC y = true := fun h => by cases hx : plainC x <;> rw [hx] at h <;> simp_all
      have hpl : ro = none ∨ (plainC x = true ∧ plainC y = true) := hro.imp id (fun h => hpx h)
      have up : ∀ {l : List Nat} {pb : Bool}, (∀ n ∈ l, n ∈ written x ++ written y) → (plainC (.cond c x y) = true → pb = true) → ∀ ex a' w', QOf l pb a.defers a kn kx kr kp ex a' w' → QOf (written x ++ written y) (plainC (.cond c x y)) a.defers a kn kx kr kp ex a' w' := by
        intro l pb hl hpb ex a' w' hq
        cases ex with
        | normal => obtain ⟨e2, hf2, hso2, hd2, hk2⟩ := hq; exact ⟨e2, hf2, hso2.mono hl, fun h => hd2 (hpb h), hk2⟩
        | exit i => obtain ⟨e2, hf2, hso2, hd2, hk2⟩ := hq; exact ⟨e2, hf2, hso2.mono hl, fun h => hd2 (hpb h), hk2⟩
        | ret => obtain ⟨e2, hf2, hso2, hd2, hk2⟩ := hq; exact ⟨e2, hf2, hso2.mono hl, fun h => hd2 (hpb h), hk2⟩
        | panic ch => exact hq
        | goto l => exact hq
        | outgrown => exact hq
      cases t with
      | true => exact wpIn_cond_true hev (wpIn_mono (ihx ro _ _ _ _ e a w (hpl.imp id And.left) (fun d hd => hN d (by simp [hd])) hs hf h) (up hl fun h => (hpx h).1))
      | false => exact wpIn_cond_false hev (wpIn_mono (ihy ro _ _ _ _ e a w (hpl.imp id And.right) (fun d hd => hN d (by simp [hd])) hs hf h) (up hr fun h => (hpx h).2))
    · exact h.elim
  | block id c ih =>
    intro ro kn kx kr kp e a w hro hN hs hf h
    simp only [vc] at h
    simp only [written] at hN ⊢
    refine wpIn_block (wpIn_mono (ih ro _ _ _ _ e a w hro hN hs hf h) fun ex a' w' hq => ?_)
    cases ex with
    | normal => exact hq
    | exit i =>
      obtain ⟨e2, hf2, hso2, hd2, hk2⟩ := hq
      simp only [Exit.inBlock]
      by_cases hi : i = id
      · subst hi
        rw [if_pos rfl]
        rw [Nat.beq_refl] at hk2
        exact ⟨e2, hf2, hso2, hd2, hk2⟩
      · rw [if_neg hi]
        have : Nat.beq i id = false := by
          cases hb : Nat.beq i id with
          | false => rfl
          | true => exact absurd (Nat.eq_of_beq_eq_true hb) hi
        rw [this] at hk2
        exact ⟨e2, hf2, hso2, hd2, hk2⟩
    | ret => exact hq
    | panic ch => exact hq
    | goto l => exact hq
    | outgrown => exact hq
  | loop c ih =>
    intro ro kn kx kr kp e a w hro hN hs hf h
    simp only [vc] at h
    simp only [written] at hN ⊢
    split at h
    · exact h.elim
    rename_i hpc
    split at h
    · rename_i s0 hs0
      obtain ⟨I, μ, hI0, hround⟩ := h
      obtain ⟨hlen0, hget0⟩ := getAll_fits hf _ _ hs0
      generalize hLdef : live e (written c) = L at *
      let getS : Act → List Value := fun a => L.map fun n => a.tmps.getD n undef
      have getS_of : ∀ (a' : Act) (s : List Value), s.length = L.length → (∀ (j n : Nat), L[j]? = some n → a'.tmps[n]? = some (s.getD j undef)) → s = getS a' := by
        intro a' s hl hg
        apply List.ext_getElem?
        intro j
        rcases Nat.lt_or_ge j L.length with hj | hj
        · have h1 := hg j L[j] (List.getElem?_eq_getElem hj)
          have hj' : j < s.length := by omega
          simp only [getS, List.getElem?_map, List.getElem?_eq_getElem hj, List.getElem?_eq_getElem hj', Option.map_some]
          simp [hj'] at h1
          simp [h1]
        · rw [List.getElem?_eq_none (by omega), List.getElem?_eq_none (by simp [getS]; omega)]
      refine wpIn_loop (fun a' w' => I (getS a') w' ∧ (∀ n ∈ L, n < a'.tmps.size) ∧ SameOff (written c) a.tmps a'.tmps ∧ a'.defers = a.defers) (fun a' w' => μ (getS a') w') ?_ ?_
      · refine ⟨by rw [← getS_of a s0 hlen0 hget0]; exact hI0, fun n hn => ?_, SameOff.refl _ _, rfl⟩
        obtain ⟨j, hj⟩ := List.getElem?_of_mem hn
        have := hget0 j n hj
        exact (Array.getElem?_eq_some_iff.1 this).1
      · rintro a' w' ⟨hI, hLs, hso, hd⟩
        have hb := hround _ _ hI
        have hgetS : ∀ j n, L[j]? = some n → a'.tmps[n]? = some ((getS a').getD (0 + j) undef) := by
          intro j n hj
          have hn := hLs n (List.mem_of_getElem? hj)
          simp [getS, hj, hn]
        obtain ⟨acc, hfa, hvc⟩ := asAll_out L 0 (getS a') [] (fun n v hn => by cases hn) hgetS hb
        have hfb : (e.drop (written c)).fits a'.tmps := by
          intro n v hn
          rw [get_drop] at hn
          split at hn
          · cases hn
          · rename_i hmb
            rw [hso.2 n (by simpa using hmb)]
            exact hf n v hn
        rw [← hd] at hvc
        refine wpIn_mono (ih ro _ _ _ _ _ a' w' (.inr hpc) hN (by rw [hso.1, hs]) (fits_append hfa hfb) hvc) fun ex a2 w2 hq => ?_
        cases ex with
        | normal =>
          obtain ⟨e2, hf2, hso2, hd2, hk2⟩ := hq
          split at hk2
          · rename_i s' hs'
            obtain ⟨hlen, hget⟩ := getAll_fits hf2 _ _ hs'
            have hse := getS_of a2 s' hlen hget
            refine ⟨⟨by rw [← hse]; exact hk2.1, fun n hn => ?_, hso.trans hso2, (hd2 hpc).trans hd⟩, by rw [← hse]; exact hk2.2⟩
            rw [hso2.1]; exact hLs n hn
          · exact hk2.elim
        | exit i => obtain ⟨e2, hf2, hso2, hd2, hk2⟩ := hq; exact ⟨e2, hf2, hso.trans hso2, fun _ => (hd2 hpc).trans hd, hk2⟩
        | ret => obtain ⟨e2, hf2, hso2, hd2, hk2⟩ := hq; exact ⟨e2, hf2, hso.trans hso2, fun _ => (hd2 hpc).trans hd, hk2⟩
        | panic ch => exact hq
        | goto l => exact hq
        | outgrown => exact hq
    · exact h.elim
  | rangeFunc g ps x y ihx ihy =>
    intro ro kn kx kr kp e a w hro hN hs hf h
    rcases hro with rfl | hro
    · exact range_sound (fun ro => ihx (some ro)) (fun ro => ihy (some ro)) hN hs hf h
    · cases hro
  | exit id =>
    intro ro kn kx kr kp e a w hro hN hs hf h
    exact wpIn_exit ⟨e, hf, SameOff.refl _ _, fun _ => rfl, h⟩
  | scope c ih =>
    intro ro kn kx kr kp e a w hro hN hs hf h
    simp only [vc] at h
    simp only [written] at hN ⊢
    refine wpIn_scope_straight (wpIn_mono (ih ro _ _ _ _ e a w hro hN hs hf h) fun ex a' w' hq => ?_)
    cases ex with
    | goto l => exact hq
    | normal => exact hq
    | exit i => exact hq
    | ret => exact hq
    | panic ch => exact hq
    | outgrown => exact hq
  | label l =>
    intro ro kn kx kr kp e a w hro hN hs hf h
    exact wpIn_label ⟨e, hf, SameOff.refl _ _, fun _ => rfl, h⟩
  | goto l => intro ro kn kx kr kp e a w hro hN hs hf h; exact h.elim
  | ret =>
    intro ro kn kx kr kp e a w hro hN hs hf h
    exact wpIn_ret ⟨e, hf, SameOff.refl _ _, fun _ => rfl, h⟩
  | refuse y => intro ro kn kx kr kp e a w hro hN hs hf h; exact h.elim

/-! ### Functions -/
theorem run_loadVar_row {P : Program} {t : TypeId} {d : TypeDesc} {w : World} {a : Addr} {cs : List Value} (ht : P.underlying t = some d) (hag : aggSize P t = some cs.length) (hrow : Row w a cs) :
    (loadVar t a).run P w = .ok (.agg cs.toArray) w := by
  have h1 := run_loadCells (P := P) hrow
  have hc : P.cellsOf t = cs.length := by
    unfold aggSize at hag
    split at hag <;> first | exact Option.some.inj hag | cases hag
  unfold loadVar
  simp only [Sem.run_bind, run_isAgg ht, Result.andThen_ok, hag, Option.isSome_some, if_true, run_sizeOf' ht, hc, h1, Sem.run_pure]
theorem run_loadVar_one {P : Program} {t : TypeId} {d : TypeDesc} {w : World} {a : Addr} {u : Value} (ht : P.underlying t = some d) (hag : aggSize P t = none) (hu : w.cell? a = some u) :
    (loadVar t a).run P w = .ok u w := by
  unfold loadVar
  simp only [Sem.run_bind, run_isAgg ht, Result.andThen_ok, hag]
  simp [hu]
def resRead (tmps : Array Value) : ResultVar → Sem Value
  | .tmp t => pure (tmps.getD t undef)
  | .cell a t => do loadVar t (← asAddr (tmps.getD a undef))
theorem resL_run {P : Program} {e : Env} {w : World} {k : List Value → Prop} {a : Array Value} (hf : e.fits a) : ∀ (l : List ResultVar) (acc : List Value), resL P e w k l acc →
    ∃ vs, (l.mapM (resRead a)).run P w = .ok vs w ∧ k (acc ++ vs)
  | [], acc, h => ⟨[], rfl, by simpa [resL] using h⟩
  | .tmp t :: r, acc, h => by
    simp only [resL] at h
    split at h
    · rename_i v hv
      obtain ⟨vs, hr, hk⟩ := resL_run hf r _ h
      have := hf t v hv
      refine ⟨v :: vs, ?_, by simpa using hk⟩
      rw [List.mapM_cons]
      simp only [Sem.run_bind, resRead]
      have hg : a.getD t undef = v := by simp [this]
      rw [hg]
      simp only [Sem.run_pure, Result.andThen_ok, hr]
    · exact h.elim
  | .cell x t :: r, acc, h => by
    simp only [resL] at h
    split at h
    · rename_i p hp
      have hx := hf x _ hp
      have hg : a.getD x undef = .pointer (some p) := by simp [hx]
      have go : ∀ u, (loadVar t p).run P w = .ok u w → resL P e w k r (acc ++ [u]) → ∃ vs, ((ResultVar.cell x t :: r).mapM (resRead a)).run P w = .ok vs w ∧ k (acc ++ vs) := by
        intro u hu h
        obtain ⟨vs, hr, hk⟩ := resL_run hf r _ h
        refine ⟨u :: vs, ?_, by simpa using hk⟩
        rw [List.mapM_cons]
        simp only [Sem.run_bind, resRead]
        rw [hg]
        simp only [asAddr, Sem.run_pure, Result.andThen_ok, hu, hr]
      split at h
      · rename_i d ht
        obtain ⟨cs, hlen, hrow, h⟩ := h
        exact go _ (run_loadVar_row ht (by simp [aggSize, ht, hlen]) hrow) h
      · rename_i n el ht
        obtain ⟨cs, hlen, hrow, h⟩ := h
        exact go _ (run_loadVar_row ht (by simp [aggSize, ht, hlen]) hrow) h
      · rename_i d hn1 hn2 ht
        obtain ⟨u, hu, h⟩ := h
        have hag : aggSize P t = none := by
          unfold aggSize
          rw [ht]
          split
          · rename_i heq; exact absurd (Option.some.inj heq) (hn1 _)
          · rename_i heq; exact absurd (Option.some.inj heq) (hn2 _ _)
          · rfl
        exact go _ (run_loadVar_one ht hag hu) h
      · exact h.elim
    · exact h.elim
theorem run_results {P : Program} {fn : Func} {tmps : Array Value} {vs : List Value} {w : World} (h : (fn.results.toList.mapM (resRead tmps)).run P w = .ok vs w) : (results fn tmps).run P w = .ok (tup1 vs) w := by
  have e0 : results fn tmps = (do let vs ← fn.results.mapM (resRead tmps); pure (if h : vs.size = 1 then vs[0] else .tuple vs)) := by
    unfold results
    congr 2
  have e : fn.results.mapM (resRead tmps) = List.toArray <$> fn.results.toList.mapM (resRead tmps) := Array.mapM_eq_mapM_toList
  rw [e0, Sem.run_bind, e, Sem.run_map, h]
  simp only [Result.andThen_ok, Sem.run_pure]
  congr 1
  match vs with
  | [] => rfl
  | [v] => rfl
  | _ :: _ :: _ => rfl
theorem argEnv_fits : ∀ (args : List Value) (i : Nat) (a : Array Value), (∀ j v, args[j]? = some v → a[i + j]? = some v) → (argEnv i args).fits a
  | [], _, _, _ => fun n v hn => by cases hn
  | x :: r, i, a, h => by
    intro n v hn
    simp only [argEnv, get_cons] at hn
    split at hn
    · rename_i he; subst he; cases hn; simpa using h 0 x rfl
    · exact argEnv_fits r (i + 1) a (fun j u hj => by have := h (j + 1) u (by simpa using hj); rwa [show i + 1 + j = i + (j + 1) by omega]) n v hn
/-- What is asked of a function's text. -/
def okFn (fn : Func) (n : Nat) : Bool := match fn.body with | some c => okCode fn.ntmps c && Nat.ble n fn.ntmps | none => false
theorem vcFn_sound {P : Program} {plan : Plan} (hm : P.follows .mixedOrders = true) {f : FuncId} {fn : Func} {args : List Value} {w : World} {Q : Value → World → Prop} {kp : List PanicEntry → World → Prop}
    (hfn : P.funcs[f]? = some fn) (hok : okFn fn args.length = true) (h : vcFn P plan fn args w Q kp) : Call P f args.toArray w Q kp := by
  unfold vcFn at h
  unfold okFn at hok
  cases hb : fn.body with
  | none => rw [hb] at h; exact h.elim
  | some c =>
    rw [hb] at h hok
    simp only at h
    simp only [Bool.and_eq_true] at hok
    obtain ⟨hc, hn⟩ := hok
    have hn' : args.length ≤ fn.ntmps := Nat.le_of_ble_eq_true hn
    unfold Call
    refine (callsIn_wide (n := 0)).1 (callsIn_of_wp_marks hfn hb trivial ?_ rfl)
    have hsz : (args.toArray ++ Array.replicate (fn.ntmps - args.toArray.size) undef).size = fn.ntmps := by simp; omega
    have hfit : (argEnv 0 args).fits (args.toArray ++ Array.replicate (fn.ntmps - args.toArray.size) undef) := by
      refine argEnv_fits args 0 _ fun j v hj => ?_
      have hlt : j < args.length := (List.getElem?_eq_some_iff.1 hj).1
      rw [Nat.zero_add, Array.getElem?_append_left (by simpa using hlt)]
      simpa using hj
    have := vc_sound (plan := plan) hm c none _ _ _ _ (argEnv 0 args) { tmps := args.toArray ++ Array.replicate (fn.ntmps - args.toArray.size) undef, defers := [] } w (.inl rfl) (fun d hd => dstBelow_spec hc d hd) hsz hfit h
    have hend : ∀ (e : Env) (tmps : Array Value) (ds : List Deferred) (w' : World), e.fits tmps → endDs ds w' (fun w => resL P e w (fun l => Q (tup1 l) w) fn.results.toList []) →
        LeavesInM Fence.wide 0 P fn tmps (fun e w'' => match e with | .returned v => Q v w'' | .panicked ch => kp ch w'' | .outgrown => False) ds .returning w' := by
      intro e tmps ds
      induction ds with
      | nil =>
        intro w' hf hk
        obtain ⟨vs, hr, hk⟩ := resL_run hf _ _ hk
        exact ⟨_, run_results hr, by simpa using hk⟩
      | cons d r ih =>
        intro w' hf hk
        simp only [endDs] at hk
        split at hk
        · rename_i D hD
          exact ⟨by simp, .inl ⟨D, _, hD, run_takeDeferred hk.1, ih _ hf hk.2⟩⟩
        · exact hk.elim
    refine wpIn_mono this fun ex a' w' hq => ?_
    cases ex with
    | normal => obtain ⟨e, hf, hso, hd, hk⟩ := hq; exact hend e _ _ _ hf hk
    | ret => obtain ⟨e, hf, hso, hd, hk⟩ := hq; exact hend e _ _ _ hf hk
    | exit i => obtain ⟨e, hf, hso, hd, hk⟩ := hq; exact hk.elim
    | goto l => exact hq.elim
    | panic ch =>
      show LeavesInM Fence.wide 0 P fn a'.tmps _ a'.defers (.panicking ch) w'
      rw [hq.1]
      exact hq.2
    | outgrown => exact hq.elim
theorem Call.fn {P : Program} {f : FuncId} {args : Array Value} {w : World} {Q : Value → World → Prop} (h : Call P f args w Q (fun _ _ => False)) : Gives P f args w Q :=
  Calls.mono h fun e w' he => by
    cases e with
    | returned v => exact ⟨v, rfl, he⟩
    | panicked ch => exact he.elim
    | outgrown => exact he.elim
/-- A function returns, and of what it returns this holds. -/
theorem fn_of_vc {P : Program} {plan : Plan} (hm : P.follows .mixedOrders = true) {f : FuncId} {fn : Func} {args : List Value} {w : World} {Q : Value → World → Prop}
    (hfn : P.funcs[f]? = some fn) (hok : okFn fn args.length = true) (h : vcFn P plan fn args w Q (fun _ _ => False)) : Gives P f args.toArray w Q := (vcFn_sound hm hfn hok h).fn
end Go.Vc
