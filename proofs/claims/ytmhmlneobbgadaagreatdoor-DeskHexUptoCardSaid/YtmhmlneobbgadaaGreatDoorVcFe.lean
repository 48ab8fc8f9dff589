/- A region that draws its order: one order, and one heavy operation that may come anywhere ahead of those that wait for it. -/
import Derived.Test.YtmhmlneobbgadaaGreatDoorVcFd
namespace Go.Vc
open Go Go.RowKit

section
variable {ro : Option Nat} {P : Program} {ops : List Oper} {S : List Nat} {a0 : Act} {kn : Env → World → Prop} {kp : List PanicEntry → World → Prop} {Q : Exit → Act → World → Prop}
theorem lightB_false_none {P : Program} {ops : List Oper} {e : Env} {w : World} {pre : List Nat} {i : Nat} {o : Oper} {R : Env → World → Prop} {kp : List PanicEntry → World → Prop} (hl : lightB P o = true) (h : seqStep P ops pre i o e w R kp) :
    ∃ e1 v, (∀ n, Env.get e1 n = Env.get e n) ∧ R (e1.put o.dst v) w ∧ ((wantE ops e o = some true ∧ knownL e1 o.op.operands.toList = true ∧ (execOp (rho e1) o).run P w = .ok (.value v) w ∧ (isLoad o.op = false → ∀ w, (execOp (rho e1) o).run P w = .ok (.value v) w)) ∨ (wantE ops e o = some false ∧ v = undef)) := by
  have run : ∀ e1 : Env, (∀ n, e1.get n = e.get n) → wantE ops e o = some true → seqOp P ops pre i o e1 w R kp →
      ∃ e1 v, (∀ n, Env.get e1 n = Env.get e n) ∧ R (e1.put o.dst v) w ∧ ((wantE ops e o = some true ∧ knownL e1 o.op.operands.toList = true ∧ (execOp (rho e1) o).run P w = .ok (.value v) w ∧ (isLoad o.op = false → ∀ w, (execOp (rho e1) o).run P w = .ok (.value v) w)) ∨ (wantE ops e o = some false ∧ v = undef)) := by
    intro e1 he hw hh
    unfold seqOp at hh
    obtain ⟨hs, hk, v, hr, hp, hkv⟩ := vOp_light hl hh
    rw [hl] at hkv
    exact ⟨e1, v, he, hkv, .inl ⟨hw, hk, hr, hp⟩⟩
  unfold seqStep at h
  split at h
  · rename_i hg
    exact run e (fun _ => rfl) (by unfold wantE; rw [hg]) h
  · rename_i j want hg
    split at h
    · rename_i b hv
      have hw : wantE ops e o = some (b == want) := by unfold wantE; rw [hg]; simp only; rw [hv]
      cases b with
      | true =>
        simp only [Gd] at h
        cases want with
        | true => exact run _ (guardDst_get hv) hw h
        | false => exact ⟨_, _, guardDst_get hv, h, .inr ⟨hw, rfl⟩⟩
      | false =>
        simp only [Gd] at h
        cases want with
        | false => exact run _ (guardDst_get hv) hw h
        | true => exact ⟨_, _, guardDst_get hv, h, .inr ⟨hw, rfl⟩⟩
    · rename_i vs hv
      have hw : wantE ops e o = some false := by unfold wantE; rw [hg]; simp only; rw [hv]
      exact ⟨e, _, fun _ => rfl, h, .inr ⟨hw, rfl⟩⟩
    · exact h.elim
/-- The order in which f comes at t. -/
def insAt (S : List Nat) (f t : Nat) : List Nat := S.take t ++ f :: S.drop t
theorem insAt_take {S : List Nat} {f t : Nat} (h : t ≤ S.length) : (insAt S f t).take t = S.take t := by
  unfold insAt
  rw [List.take_append_of_le_length (by rw [List.length_take]; omega), List.take_take, Nat.min_self]
theorem insAt_drop {S : List Nat} {f t : Nat} (h : t ≤ S.length) : (insAt S f t).drop t = f :: S.drop t := by
  unfold insAt
  rw [List.drop_append_of_le_length (by rw [List.length_take]; omega), List.drop_eq_nil_of_le (by rw [List.length_take]; omega), List.nil_append]
theorem insAt_lt {S : List Nat} {f t k : Nat} (h : t ≤ S.length) (hk : k < t) : (insAt S f t)[k]? = S[k]? := by
  unfold insAt
  rw [List.getElem?_append_left (by rw [List.length_take]; omega), List.getElem?_take_of_lt hk]
theorem insAt_at {S : List Nat} {f t : Nat} (h : t ≤ S.length) : (insAt S f t)[t]? = some f := by
  unfold insAt
  rw [List.getElem?_append_right (by rw [List.length_take]; omega), List.length_take, Nat.min_eq_left h, Nat.sub_self]; rfl
theorem insAt_gt {S : List Nat} {f t k : Nat} (h : t ≤ S.length) (hk : t ≤ k) : (insAt S f t)[k + 1]? = S[k]? := by
  unfold insAt
  rw [List.getElem?_append_right (by rw [List.length_take]; omega), List.length_take, Nat.min_eq_left h, show k + 1 - t = (k - t) + 1 by omega, List.getElem?_cons_succ, List.getElem?_drop, show t + (k - t) = k by omega]
theorem insAt_perm (S : List Nat) (f t : Nat) : (insAt S f t).Perm (f :: S) := by
  unfold insAt
  have := List.perm_middle (l₁ := S.take t) (l₂ := S.drop t) (a := f)
  rwa [List.take_append_drop] at this
theorem insAt_drop_gt {S : List Nat} {f t k : Nat} (h : t ≤ S.length) (hk : t ≤ k) : (insAt S f t).drop (k + 1) = S.drop k := by
  have e : k + 1 = t + (k - t + 1) := by omega
  rw [e, ← List.drop_drop, insAt_drop h, List.drop_succ_cons, List.drop_drop, show t + (k - t) = k by omega]
theorem fapp_lt {S : List Nat} {f k : Nat} (hk : k < S.length) : (S ++ [f])[k]? = S[k]? := List.getElem?_append_left hk
theorem fapp_at {S : List Nat} {f : Nat} : (S ++ [f])[S.length]? = some f := by rw [List.getElem?_append_right (Nat.le_refl _), Nat.sub_self]; rfl
theorem fapp_take {S : List Nat} {f t : Nat} (h : t ≤ S.length) : (S ++ [f]).take t = S.take t := List.take_append_of_le_length h
theorem fat_lt {S : List Nat} {k i : Nat} (h : S[k]? = some i) : k < S.length := (List.getElem?_eq_some_iff.1 h).1
/-- What holds where f comes last holds where f is the next. -/
theorem SInv.ins {f t : Nat} {e : Env} {listed : Array Bool} {a : Act} {w : World} (inv : SInv P ops (S ++ [f]) t a0 e listed a w) (ht : t ≤ S.length) : SInv P ops (insAt S f t) t a0 e listed a w := by
  have lt : ∀ {k i : Nat}, k < t → (insAt S f t)[k]? = some i → (S ++ [f])[k]? = some i := fun hlt hk => by
    rw [insAt_lt ht hlt] at hk; rw [fapp_lt (fat_lt hk)]; exact hk
  have ge : ∀ {k i : Nat}, t ≤ k → (insAt S f t)[k]? = some i → ∃ k', t ≤ k' ∧ (S ++ [f])[k']? = some i := fun {k i} hle hk => by
    rcases Nat.eq_or_lt_of_le hle with h | h
    · subst h; rw [insAt_at ht] at hk; cases hk; exact ⟨S.length, ht, fapp_at⟩
    · obtain ⟨k', rfl⟩ : ∃ k', k = k' + 1 := ⟨k - 1, by omega⟩
      rw [insAt_gt ht (by omega)] at hk
      exact ⟨k', by omega, by rw [fapp_lt (fat_lt hk)]; exact hk⟩
  refine ⟨inv.size, inv.closed, fun k i o hk hlt => inv.done k i o (lt hlt hk) hlt, fun k i hk hle => ?_, inv.defers, inv.same, inv.frame, fun k i o d hk hle ho hd => ?_, fun k i o hk hlt => inv.float k i o (lt hlt hk) hlt⟩
  · obtain ⟨k', h1, h2⟩ := ge hle hk
    exact inv.rest k' i h2 h1
  · obtain ⟨k', h1, h2⟩ := ge hle hk
    exact inv.fresh k' i o d h2 h1 ho hd
/-- On to the next heavy one, or to where all that follow wait for f. -/
theorem flt_adv (hnd : (dsts ops).Nodup) {f : Nat} (hSn : (S ++ [f]).Nodup) {listed : Array Bool} {a : Act} {w : World} : ∀ (m t : Nat) (e : Env), S.length - t = m → t ≤ S.length → SInv P ops (S ++ [f]) t a0 e listed a w → vcFlt P ops f kn kp (S.drop t) (S.take t).reverse e w →
    ∃ t' e', SInv P ops (S ++ [f]) t' a0 e' listed a w ∧ t ≤ t' ∧ t' ≤ S.length ∧ vcSeq P ops kn kp (f :: S.drop t') (S.take t').reverse e' w ∧
      (aftOk ops (S.drop t') [f] = true ∨ ∃ i o, S[t']? = some i ∧ ops[i]? = some o ∧ lightB P o = false ∧ seqStep P ops (S.take t').reverse i o e' w (fun e w => vcFlt P ops f kn kp (S.drop (t' + 1)) (S.take (t' + 1)).reverse e w) kp) := by
  intro m
  induction m with
  | zero =>
    intro t e hm ht inv h
    rw [List.drop_eq_nil_of_le (by omega)] at h
    unfold vcFlt at h
    refine ⟨t, e, inv, Nat.le_refl _, ht, ?_, .inl ?_⟩
    · rw [List.drop_eq_nil_of_le (by omega)]; exact h
    · rw [List.drop_eq_nil_of_le (by omega)]; rfl
  | succ m ih =>
    intro t e hm ht inv h
    have hi : S[t]? = some (S[t]'(by omega)) := List.getElem?_eq_getElem (by omega)
    generalize (S[t]'(by omega)) = i at hi
    have hd := drop_at hi
    have h0 := h
    rw [hd] at h
    unfold vcFlt at h
    split at h
    · rename_i hok
      refine ⟨t, e, inv, Nat.le_refl _, ht, ?_, .inl ?_⟩ <;> rw [hd]
      · exact h
      · exact hok
    · split at h
      · exact h.elim
      · rename_i o ho
        split at h
        · rename_i hl
          rw [← pre_succ hi] at h
          obtain ⟨e1, v, he, hk, hv⟩ := lightB_false_none hl h
          obtain ⟨t', e', h1, h2, h3⟩ := ih (t + 1) _ (by omega) (by omega) (inv.grow hnd hSn (by rw [fapp_lt (fat_lt hi)]; exact hi) ho hl he hv) hk
          exact ⟨t', e', h1, by omega, h3⟩
        · rename_i hl
          rw [← pre_succ hi] at h
          exact ⟨t, e, inv, Nat.le_refl _, ht, by rw [hd]; exact h.1, .inr ⟨i, o, hi, ho, hl, h.2⟩⟩
theorem flt_any {f : Nat} (hnd : (dsts ops).Nodup) (hlook : ∀ o ∈ ops, looksB ops o = true) (hlow : lowB ops = true) (hSn : (f :: S).Nodup) (hcov : ∀ i, i < ops.length → i ∈ f :: S) (hSlt : ∀ i ∈ f :: S, i < ops.length) (hheavy : heavyOk P ops S = true)
    (hfl : ∃ o, ops[f]? = some o ∧ lightB P o = false)
    (hsz : ∀ d ∈ dsts ops, d < a0.tmps.size)
    (hQn : ∀ e' a' w', kn e' w' → e'.fits a'.tmps → SameOff (dsts ops) a0.tmps a'.tmps → a'.defers = a0.defers → Q .normal a' w')
    (hQp : ∀ ch a' w', kp ch w' → a'.defers = a0.defers → Q (.panic ch) a' w') :
    ∀ (n : Nat) (listed : Array Bool) (a : Act) (w : World) (e : Env) (t : Nat), SInv P ops (S ++ [f]) t a0 e listed a w → t ≤ S.length → vcFlt P ops f kn kp (S.drop t) (S.take t).reverse e w → unl listed = n →
      wpAnyIn (FW ro) 0 P .any ops.toArray Q n listed a w := by
  have hpa : (S ++ [f]).Perm (f :: S) := List.perm_append_singleton f S
  have hSa : (S ++ [f]).Nodup := hpa.nodup_iff.2 hSn
  intro n
  induction n with
  | zero =>
    intro listed a w e t inv ht h hu
    have hfl : f < ops.length := hSlt f (by simp)
    have := unl_set (inv.rest _ _ fapp_at ht)
    omega
  | succ n ih =>
    intro listed a w e0 t0 inv0 ht0 h0 hu
    obtain ⟨t, e, inv, htt, ht, hv, hend⟩ := flt_adv hnd hSa _ t0 e0 rfl ht0 inv0 h0
    have hf : listed.getD f true = false := inv.rest _ _ fapp_at ht
    have hSn' : (insAt S f t).Nodup := (insAt_perm S f t).nodup_iff.2 hSn
    have hcov' : ∀ i, i < ops.length → i ∈ insAt S f t := fun i hi => (insAt_perm S f t).mem_iff.2 (hcov i hi)
    have hSlt' : ∀ i ∈ insAt S f t, i < ops.length := fun i hi => hSlt i ((insAt_perm S f t).mem_iff.1 hi)
    have hlen' : (insAt S f t).length = S.length + 1 := (insAt_perm S f t).length_eq
    have inv' := inv.ins ht
    have hv' : vcSeq P ops kn kp ((insAt S f t).drop t) ((insAt S f t).take t).reverse e w := by rw [insAt_drop ht, insAt_take ht]; exact hv
    have hafter : ∀ t' i o, t + 1 ≤ t' → (insAt S f t)[t']? = some i → ops[i]? = some o → lightB P o = false → aftOk ops ((insAt S f t).drop (t' + 1)) [i] = true := fun t' i o hle hi ho hl => by
      obtain ⟨k, rfl⟩ : ∃ k, t' = k + 1 := ⟨t' - 1, by omega⟩
      rw [insAt_gt ht (by omega)] at hi
      rw [insAt_drop_gt ht (by omega)]
      exact heavy_spec S hheavy k i o hi ho hl
    rcases hend with hend | ⟨ih', oh, hih, hoh, hlh, hstep⟩
    · refine seq_any hnd hlook hlow hSn' hcov' hSlt' t (fun t' i o hle hi ho hl => ?_) hsz hQn hQp (n + 1) listed a w e t inv' (Nat.le_refl _) (by omega) hv' hu
      rcases Nat.eq_or_lt_of_le hle with h | h
      · subst h
        rw [insAt_at ht] at hi; cases hi
        rw [insAt_drop_gt ht (Nat.le_refl _)]
        exact hend
      · exact hafter t' i o h hi ho hl
    · refine ⟨fun h0 => absurd h0 (ready_of_unlisted hlow inv.size _ f (Nat.le_refl _) (hSlt f (by simp)) hf), fun i hi => ?_⟩
      have hun := (mem_ready.1 hi).1
      have hil : i < ops.length := by
        obtain ⟨_, o, ho, _⟩ := mem_ready.1 hi
        have ho' : ops[i]? = some o := by simpa using ho
        exact (List.getElem?_eq_some_iff.1 ho').1
      have hu' : unl (listed.setIfInBounds i true) = n := by have := unl_set hun; omega
      by_cases hif : i = f
      · subst hif
        obtain ⟨of, hof, hlf⟩ := hfl
        refine seq_one (R := fun e w => vcSeq P ops kn kp ((insAt S i t).drop (t + 1)) ((insAt S i t).take (t + 1)).reverse e w) hnd hlook hSn' hsz hQp inv' hi (insAt_at ht) (fun hkt => absurd hkt (Nat.lt_irrefl _)) (fun _ => ⟨rfl, of, hof, hlf, ?_⟩) fun _ e' a' w' inv2 hr => ?_
        · rw [insAt_drop ht] at hv'
          unfold vcSeq at hv'
          rw [hof] at hv'
          rw [pre_succ (insAt_at ht), insAt_drop_gt ht (Nat.le_refl _)]
          exact hv'
        · exact seq_any hnd hlook hlow hSn' hcov' hSlt' (t + 1) hafter hsz hQn hQp n _ _ _ e' (t + 1) inv2 (Nat.le_refl _) (by omega) hr hu'
      · have hiS : i ∈ S := (List.mem_cons.1 (hcov i hil)).resolve_left hif
        obtain ⟨k, hkS⟩ := List.getElem?_of_mem hiS
        have hkl := fat_lt hkS
        have hkA : (S ++ [f])[k]? = some i := by rw [fapp_lt hkl]; exact hkS
        have htl := fat_lt hih
        refine seq_one (R := fun e w => vcFlt P ops f kn kp (S.drop (k + 1)) (S.take (k + 1)).reverse e w) hnd hlook hSa hsz hQp inv hi hkA (fun hkt a' inv2 => ?_) (fun hkt => ?_) fun hkt e' a' w' inv2 hr => ih _ _ _ e' (k + 1) inv2 (by omega) hr hu'
        · refine ih _ _ _ e t inv2 ht ?_ hu'
          rw [drop_at hih]
          unfold vcFlt
          rw [← drop_at hih]
          split
          · exact hv
          · rw [hoh]
            simp only
            rw [hlh]
            simp only
            exact ⟨hv, by rw [← pre_succ hih]; exact hstep⟩
        · obtain ⟨_, o, ho, hready⟩ := mem_ready.1 hi
          have ho' : ops[i]? = some o := by simpa using ho
          have hit : k = t := by
            rcases Nat.eq_or_lt_of_le (Nat.not_lt.1 hkt) with h2 | h2
            · exact h2.symm
            · exfalso
              have ha := heavy_spec S hheavy t ih' oh hih hoh hlh
              have h3 := aft_spec (i := ih') inv.closed _ [ih'] (fun x hx hlx => by rw [List.mem_singleton] at hx; rw [hx] at hlx; exact hlx) ha i (by
                have : (S.drop (t + 1))[k - (t + 1)]? = some i := by rw [List.getElem?_drop, show t + 1 + (k - (t + 1)) = k by omega]; exact hkS
                exact List.mem_of_getElem? this) o ho' hready
              exact getD_tf (inv.rest t ih' (by rw [fapp_lt htl]; exact hih) (Nat.le_refl _)) h3
          subst hit
          rw [hkS] at hih; cases hih
          exact ⟨rfl, oh, hoh, hlh, by rw [fapp_take (Nat.le_of_lt hkl)]; exact hstep⟩
end
theorem vcFltT_sound {ro : Option Nat} {P : Program} {T : List Nat} {ops : List Oper} {id : Nat} {kn : Env → World → Prop} {kp : List PanicEntry → World → Prop} {Q : Exit → Act → World → Prop} {a : Act} {w : World} {e : Env}
    (hm : P.follows .mixedOrders = true)
    (hQn : ∀ e' a' w', kn e' w' → e'.fits a'.tmps → SameOff (dsts ops) a.tmps a'.tmps → a'.defers = a.defers → Q .normal a' w')
    (hQp : ∀ ch a' w', kp ch w' → a'.defers = a.defers → Q (.panic ch) a' w') (hL : ∀ d ∈ dsts ops, d < a.tmps.size)
    (h : vcFltT P T ops e w kn kp) (hf : e.fits a.tmps) : (Code.region id ops.toArray true).wpIn (FW ro) 0 P Q a w := by
  unfold vcFltT at h
  split at h
  · exact h.elim
  rename_i f S
  split at h
  · exact h.elim
  · rename_i hok
    unfold fltOk at hok
    simp only [Bool.and_eq_true] at hok
    obtain ⟨⟨⟨⟨⟨⟨⟨hlook, hnd⟩, hlow⟩, hSn⟩, hcov⟩, hSlt⟩, hheavy⟩, hfl⟩ := hok
    have hnd' := nodupB_spec _ hnd
    have hSn' := nodupB_spec _ hSn
    have hlook' : ∀ o ∈ ops, looksB ops o = true := fun o ho => List.all_eq_true.1 hlook o ho
    have hlt : ∀ i ∈ f :: S, i < ops.length := fun i hi => by
      have := List.all_eq_true.1 hSlt i hi
      simpa using this
    have hfl' : ∃ o, ops[f]? = some o ∧ lightB P o = false := by
      split at hfl
      · rename_i o ho; exact ⟨o, ho, by simpa using hfl⟩
      · cases hfl
    have hno : ∀ d ∈ dsts ops, (e.drop (dsts ops)).get d = none := fun d hd => by
      rw [get_drop, if_pos]; rw [memB_iff]; exact hd
    have hf0 : (e.drop (dsts ops)).fits a.tmps := fits_drop hf _
    have hfalse : ∀ (i : Nat) (b : Bool), (Array.replicate ops.toArray.size false).getD i b = true → ¬ i < ops.length ∧ b = true := fun i b hb => by
      by_cases hlt : i < ops.length
      · simp [hlt] at hb
      · refine ⟨hlt, ?_⟩
        simp [hlt] at hb; exact hb
    refine wpIn_region_any hm ?_
    have hrest : ∀ (k i : Nat), (S ++ [f])[k]? = some i → 0 ≤ k → (Array.replicate ops.toArray.size false).getD i true = false := fun k i hk _ => by
      have hlt : i < ops.length := hlt i ((List.perm_append_singleton f S).mem_iff.1 (List.mem_of_getElem? hk))
      simp [hlt]
    refine flt_any (t := 0) (e := e.drop (dsts ops)) hnd' hlook' hlow hSn' (fun i hi => (memB_iff _ _).1 (List.all_eq_true.1 hcov i (List.mem_range.2 hi))) hlt hheavy hfl' hL hQn hQp _ _ a { w with drawn := w.drawn + 1 } ⟨by simp, fun j oj _ hl => ?_, fun k i o _ hk => absurd hk (by omega), hrest, rfl, SameOff.refl _ _, fun n v hn => .inl (hf0 n v hn), fun k i o d _ _ ho hd => hno d (mem_dsts hd (List.mem_of_getElem? ho)), fun k i o _ hk => absurd hk (by omega)⟩ (Nat.zero_le _) (h _ (Below.refl _ w).drew) ?_
    · have := (hfalse _ _ hl).2; cases this
    · unfold unl
      have : (Array.replicate ops.toArray.size false).toList = List.replicate ops.toArray.size false := by simp
      rw [this]
      have hc : ∀ n : Nat, (List.replicate n false).countP (fun b => !b) = n := fun n => by
        induction n with
        | zero => rfl
        | succ n ih => simp [List.replicate_succ, ih]
      rw [hc]
end Go.Vc
