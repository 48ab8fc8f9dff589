/- Laws and walks on which this claim rests, part 2: merged from this claim's own texts by a program of its writer. -/
import Derived.Test.YtngecegnlhmnlaaGreatDoorZd1
import Derived.StillTail
import Derived.Below
import Derived.Scope
import Derived.KernelRfl
import Derived.Laws.Sem
import Derived.Laws.World
import Derived.CallsIn
import Derived.OrdersIn
import Derived.TacticsIn
import Derived.RangeFuncRecord
import Derived.Test.YtngecegnlhmnlaaGreatDoorProg
import Derived.Shelf.Strings.OnBuilder
import Derived.Shelf.LaysM
import Derived.Shelf.Strconv.Itoa3
import Derived.Shelf.LaysC
import Derived.Shelf.Strconv.AtoiAll
import Derived.Shelf.Strconv.ErrVarAll
import Derived.Shelf.Strings.Split
import Derived.Laws.AppendOwn
import Derived.Maps.AppendAt
import Derived.Deep.Slices
import Derived.OpenShut
import Derived.DeepKeys5
import Derived.Laws.StructEq
import Derived.Maps.RangeRun
import Derived.Laws.CopyRow
import Derived.Laws.OwnMore
import Derived.Lib.SplitLaws
import Derived.Lib.IndexLaws
set_option linter.unusedSimpArgs false
set_option linter.unusedVariables false
namespace Go.Vc
open Go Go.RowKit
section
variable {ro : Option Nat} {P : Program} {ops : List Oper} {S : List Nat} {a0 : Act} {kn : Env → World → Prop} {kp : List PanicEntry → World → Prop} {Q : Exit → Act → World → Prop}
theorem lightB_false_none {P : Program} {ops : List Oper} {e : Env} {w : World} {pre : List Nat} {i : Nat} {o : Oper} {R : Env → World → Prop} {kp : List PanicEntry → World → Prop} (hl : lightB P o = true) (h : seqStep P ops pre i o e w R kp) :
    ∃ e1 v, (∀ n, Env.get e1 n = Env.get e n) ∧ R (e1.put o.dst v) w ∧ ((wantE ops e o = some true ∧ knownL e1 o.op.operands.toList = true ∧ (execOp (rho e1) o).run P w = .ok (.value v) w ∧ (isLoad o.op = false → ∀ w, (execOp (rho e1) o).run P w = .ok (.value v) w)) ∨ (wantE ops e o = some false ∧ v = undef)) := by
  have run : ∀ e1 : Env, (∀ n, e1.get n = e.get n) → wantE ops e o = some true → seqOp P ops pre i o e1 w R kp →
      ∃ e1 v, (∀ n, Env.get e1 n = Env.get e n) ∧ R (e1.put o.dst v) w ∧ ((wantE ops e o = some true ∧ knownL e1 o.op.operands.toList = true ∧ (execOp (rho e1) o).run P w = .ok (.value v) w ∧ (isLoad o.op = false → ∀ w, (execOp (rho e1) o).run P w = .ok (.value v) w)) ∨ (wantE ops e o = some false ∧ v = undef)) := by
    intro e1 he hw hh
    unfold seqOp at hh
    obtain ⟨hs, hk, v, hr, hp, hkv⟩ := vOp_light hl hh
    rw [hl] at hkv
    exact ⟨e1, v, he, hkv, .inl ⟨hw, hk, hr, hp⟩⟩
  unfold seqStep at h
  split at h
  · rename_i hg
    exact run e (fun _ => rfl) (by unfold wantE; rw [hg]) h
  · rename_i j want hg
    split at h
    · rename_i b hv
      have hw : wantE ops e o = some (b == want) := by unfold wantE; rw [hg]; simp only; rw [hv]
      cases b with
      | true =>
        simp only [Gd] at h
        cases want with
        | true => exact run _ (guardDst_get hv) hw h
        | false => exact ⟨_, _, guardDst_get hv, h, .inr ⟨hw, rfl⟩⟩
      | false =>
        simp only [Gd] at h
        cases want with
        | false => exact run _ (guardDst_get hv) hw h
        | true => exact ⟨_, _, guardDst_get hv, h, .inr ⟨hw, rfl⟩⟩
    · rename_i vs hv
      have hw : wantE ops e o = some false := by unfold wantE; rw [hg]; simp only; rw [hv]
      exact ⟨e, _, fun _ => rfl, h, .inr ⟨hw, rfl⟩⟩
    · exact h.elim
def insAt (S : List Nat) (f t : Nat) : List Nat := S.take t ++ f :: S.drop t
theorem insAt_take {S : List Nat} {f t : Nat} (h : t ≤ S.length) : (insAt S f t).take t = S.take t := by
  unfold insAt
  rw [List.take_append_of_le_length (by rw [List.length_take]; omega), List.take_take, Nat.min_self]
theorem insAt_drop {S : List Nat} {f t : Nat} (h : t ≤ S.length) : (insAt S f t).drop t = f :: S.drop t := by
  unfold insAt
  rw [List.drop_append_of_le_length (by rw [List.length_take]; omega), List.drop_eq_nil_of_le (by rw [List.length_take]; omega), List.nil_append]
theorem insAt_lt {S : List Nat} {f t k : Nat} (h : t ≤ S.length) (hk : k < t) : (insAt S f t)[k]? = S[k]? := by
  unfold insAt
  rw [List.getElem?_append_left (by rw [List.length_take]; omega), List.getElem?_take_of_lt hk]
theorem insAt_at {S : List Nat} {f t : Nat} (h : t ≤ S.length) : (insAt S f t)[t]? = some f := by
  unfold insAt
  rw [List.getElem?_append_right (by rw [List.length_take]; omega), List.length_take, Nat.min_eq_left h, Nat.sub_self]; rfl
theorem insAt_gt {S : List Nat} {f t k : Nat} (h : t ≤ S.length) (hk : t ≤ k) : (insAt S f t)[k + 1]? = S[k]? := by
  unfold insAt
  rw [List.getElem?_append_right (by rw [List.length_take]; omega), List.length_take, Nat.min_eq_left h, show k + 1 - t = (k - t) + 1 by omega, List.getElem?_cons_succ, List.getElem?_drop, show t + (k - t) = k by omega]
theorem insAt_perm (S : List Nat) (f t : Nat) : (insAt S f t).Perm (f :: S) := by
  unfold insAt
  have := List.perm_middle (l₁ := S.take t) (l₂ := S.drop t) (a := f)
  rwa [List.take_append_drop] at this
theorem insAt_drop_gt {S : List Nat} {f t k : Nat} (h : t ≤ S.length) (hk : t ≤ k) : (insAt S f t).drop (k + 1) = S.drop k := by
  have e : k + 1 = t + (k - t + 1) := by omega
  rw [e, ← List.drop_drop, insAt_drop h, List.drop_succ_cons, List.drop_drop, show t + (k - t) = k by omega]
theorem fapp_lt {S : List Nat} {f k : Nat} (hk : k < S.length) : (S ++ [f])[k]? = S[k]? := List.getElem?_append_left hk
theorem fapp_at {S : List Nat} {f : Nat} : (S ++ [f])[S.length]? = some f := by rw [List.getElem?_append_right (Nat.le_refl _), Nat.sub_self]; rfl
theorem fapp_take {S : List Nat} {f t : Nat} (h : t ≤ S.length) : (S ++ [f]).take t = S.take t := List.take_append_of_le_length h
theorem fat_lt {S : List Nat} {k i : Nat} (h : S[k]? = some i) : k < S.length := (List.getElem?_eq_some_iff.1 h).1
theorem SInv.ins {f t : Nat} {e : Env} {listed : Array Bool} {a : Act} {w : World} (inv : SInv P ops (S ++ [f]) t a0 e listed a w) (ht : t ≤ S.length) : SInv P ops (insAt S f t) t a0 e listed a w := by
  have lt : ∀ {k i : Nat}, k < t → (insAt S f t)[k]? = some i → (S ++ [f])[k]? = some i := fun hlt hk => by
    rw [insAt_lt ht hlt] at hk; rw [fapp_lt (fat_lt hk)]; exact hk
  have ge : ∀ {k i : Nat}, t ≤ k → (insAt S f t)[k]? = some i → ∃ k', t ≤ k' ∧ (S ++ [f])[k']? = some i := fun {k i} hle hk => by
    rcases Nat.eq_or_lt_of_le hle with h | h
    · subst h; rw [insAt_at ht] at hk; cases hk; exact ⟨S.length, ht, fapp_at⟩
    · obtain ⟨k', rfl⟩ : ∃ k', k = k' + 1 := ⟨k - 1, by omega⟩
      rw [insAt_gt ht (by omega)] at hk
      exact ⟨k', by omega, by rw [fapp_lt (fat_lt hk)]; exact hk⟩
  refine ⟨inv.size, inv.closed, fun k i o hk hlt => inv.done k i o (lt hlt hk) hlt, fun k i hk hle => ?_, inv.defers, inv.same, inv.frame, fun k i o d hk hle ho hd => ?_, fun k i o hk hlt => inv.float k i o (lt hlt hk) hlt⟩
  · obtain ⟨k', h1, h2⟩ := ge hle hk
    exact inv.rest k' i h2 h1
  · obtain ⟨k', h1, h2⟩ := ge hle hk
    exact inv.fresh k' i o d h2 h1 ho hd
theorem flt_adv (hnd : (dsts ops).Nodup) {f : Nat} (hSn : (S ++ [f]).Nodup) {listed : Array Bool} {a : Act} {w : World} : ∀ (m t : Nat) (e : Env), S.length - t = m → t ≤ S.length → SInv P ops (S ++ [f]) t a0 e listed a w → vcFlt P ops f kn kp (S.drop t) (S.take t).reverse e w →
    ∃ t' e', SInv P ops (S ++ [f]) t' a0 e' listed a w ∧ t ≤ t' ∧ t' ≤ S.length ∧ vcSeq P ops kn kp (f :: S.drop t') (S.take t').reverse e' w ∧
      (aftOk ops (S.drop t') [f] = true ∨ ∃ i o, S[t']? = some i ∧ ops[i]? = some o ∧ lightB P o = false ∧ seqStep P ops (S.take t').reverse i o e' w (fun e w => vcFlt P ops f kn kp (S.drop (t' + 1)) (S.take (t' + 1)).reverse e w) kp) := by
  intro m
  induction m with
  | zero =>
    intro t e hm ht inv h
    rw [List.drop_eq_nil_of_le (by omega)] at h
    unfold vcFlt at h
    refine ⟨t, e, inv, Nat.le_refl _, ht, ?_, .inl ?_⟩
    · rw [List.drop_eq_nil_of_le (by omega)]; exact h
    · rw [List.drop_eq_nil_of_le (by omega)]; rfl
  | succ m ih =>
    intro t e hm ht inv h
    have hi : S[t]? = some (S[t]'(by omega)) := List.getElem?_eq_getElem (by omega)
    generalize (S[t]'(by omega)) = i at hi
    have hd := drop_at hi
    have h0 := h
    rw [hd] at h
    unfold vcFlt at h
    split at h
    · rename_i hok
      refine ⟨t, e, inv, Nat.le_refl _, ht, ?_, .inl ?_⟩ <;> rw [hd]
      · exact h
      · exact hok
    · split at h
      · exact h.elim
      · rename_i o ho
        split at h
        · rename_i hl
          rw [← pre_succ hi] at h
          obtain ⟨e1, v, he, hk, hv⟩ := lightB_false_none hl h
          obtain ⟨t', e', h1, h2, h3⟩ := ih (t + 1) _ (by omega) (by omega) (inv.grow hnd hSn (by rw [fapp_lt (fat_lt hi)]; exact hi) ho hl he hv) hk
          exact ⟨t', e', h1, by omega, h3⟩
        · rename_i hl
          rw [← pre_succ hi] at h
          exact ⟨t, e, inv, Nat.le_refl _, ht, by rw [hd]; exact h.1, .inr ⟨i, o, hi, ho, hl, h.2⟩⟩
theorem flt_any {f : Nat} (hnd : (dsts ops).Nodup) (hlook : ∀ o ∈ ops, looksB ops o = true) (hlow : lowB ops = true) (hSn : (f :: S).Nodup) (hcov : ∀ i, i < ops.length → i ∈ f :: S) (hSlt : ∀ i ∈ f :: S, i < ops.length) (hheavy : heavyOk P ops S = true)
    (hfl : ∃ o, ops[f]? = some o ∧ lightB P o = false)
    (hsz : ∀ d ∈ dsts ops, d < a0.tmps.size)
    (hQn : ∀ e' a' w', kn e' w' → e'.fits a'.tmps → SameOff (dsts ops) a0.tmps a'.tmps → a'.defers = a0.defers → Q .normal a' w')
    (hQp : ∀ ch a' w', kp ch w' → a'.defers = a0.defers → Q (.panic ch) a' w') :
    ∀ (n : Nat) (listed : Array Bool) (a : Act) (w : World) (e : Env) (t : Nat), SInv P ops (S ++ [f]) t a0 e listed a w → t ≤ S.length → vcFlt P ops f kn kp (S.drop t) (S.take t).reverse e w → unl listed = n →
      wpAnyIn (FW ro) 0 P .any ops.toArray Q n listed a w := by
  have hpa : (S ++ [f]).Perm (f :: S) := List.perm_append_singleton f S
  have hSa : (S ++ [f]).Nodup := hpa.nodup_iff.2 hSn
  intro n
  induction n with
  | zero =>
    intro listed a w e t inv ht h hu
    have hfl : f < ops.length := hSlt f (by simp)
    have := unl_set (inv.rest _ _ fapp_at ht)
    omega
  | succ n ih =>
    intro listed a w e0 t0 inv0 ht0 h0 hu
    obtain ⟨t, e, inv, htt, ht, hv, hend⟩ := flt_adv hnd hSa _ t0 e0 rfl ht0 inv0 h0
    have hf : listed.getD f true = false := inv.rest _ _ fapp_at ht
    have hSn' : (insAt S f t).Nodup := (insAt_perm S f t).nodup_iff.2 hSn
    have hcov' : ∀ i, i < ops.length → i ∈ insAt S f t := fun i hi => (insAt_perm S f t).mem_iff.2 (hcov i hi)
    have hSlt' : ∀ i ∈ insAt S f t, i < ops.length := fun i hi => hSlt i ((insAt_perm S f t).mem_iff.1 hi)
    have hlen' : (insAt S f t).length = S.length + 1 := (insAt_perm S f t).length_eq
    have inv' := inv.ins ht
    have hv' : vcSeq P ops kn kp ((insAt S f t).drop t) ((insAt S f t).take t).reverse e w := by rw [insAt_drop ht, insAt_take ht]; exact hv
    have hafter : ∀ t' i o, t + 1 ≤ t' → (insAt S f t)[t']? = some i → ops[i]? = some o → lightB P o = false → aftOk ops ((insAt S f t).drop (t' + 1)) [i] = true := fun t' i o hle hi ho hl => by
      obtain ⟨k, rfl⟩ : ∃ k, t' = k + 1 := ⟨t' - 1, by omega⟩
      rw [insAt_gt ht (by omega)] at hi
      rw [insAt_drop_gt ht (by omega)]
      exact heavy_spec S hheavy k i o hi ho hl
    rcases hend with hend | ⟨ih', oh, hih, hoh, hlh, hstep⟩
    · refine seq_any hnd hlook hlow hSn' hcov' hSlt' t (fun t' i o hle hi ho hl => ?_) hsz hQn hQp (n + 1) listed a w e t inv' (Nat.le_refl _) (by omega) hv' hu
      rcases Nat.eq_or_lt_of_le hle with h | h
      · subst h
        rw [insAt_at ht] at hi; cases hi
        rw [insAt_drop_gt ht (Nat.le_refl _)]
        exact hend
      · exact hafter t' i o h hi ho hl
    · refine ⟨fun h0 => absurd h0 (ready_of_unlisted hlow inv.size _ f (Nat.le_refl _) (hSlt f (by simp)) hf), fun i hi => ?_⟩
      have hun := (mem_ready.1 hi).1
      have hil : i < ops.length := by
        obtain ⟨_, o, ho, _⟩ := mem_ready.1 hi
        have ho' : ops[i]? = some o := by simpa using ho
        exact (List.getElem?_eq_some_iff.1 ho').1
      have hu' : unl (listed.setIfInBounds i true) = n := by have := unl_set hun; omega
      by_cases hif : i = f
      · subst hif
        obtain ⟨of, hof, hlf⟩ := hfl
        refine seq_one (R := fun e w => vcSeq P ops kn kp ((insAt S i t).drop (t + 1)) ((insAt S i t).take (t + 1)).reverse e w) hnd hlook hSn' hsz hQp inv' hi (insAt_at ht) (fun hkt => absurd hkt (Nat.lt_irrefl _)) (fun _ => ⟨rfl, of, hof, hlf, ?_⟩) fun _ e' a' w' inv2 hr => ?_
        · rw [insAt_drop ht] at hv'
          unfold vcSeq at hv'
          rw [hof] at hv'
          rw [pre_succ (insAt_at ht), insAt_drop_gt ht (Nat.le_refl _)]
          exact hv'
        · exact seq_any hnd hlook hlow hSn' hcov' hSlt' (t + 1) hafter hsz hQn hQp n _ _ _ e' (t + 1) inv2 (Nat.le_refl _) (by omega) hr hu'
      · have hiS : i ∈ S := (List.mem_cons.1 (hcov i hil)).resolve_left hif
        obtain ⟨k, hkS⟩ := List.getElem?_of_mem hiS
        have hkl := fat_lt hkS
        have hkA : (S ++ [f])[k]? = some i := by rw [fapp_lt hkl]; exact hkS
        have htl := fat_lt hih
        refine seq_one (R := fun e w => vcFlt P ops f kn kp (S.drop (k + 1)) (S.take (k + 1)).reverse e w) hnd hlook hSa hsz hQp inv hi hkA (fun hkt a' inv2 => ?_) (fun hkt => ?_) fun hkt e' a' w' inv2 hr => ih _ _ _ e' (k + 1) inv2 (by omega) hr hu'
        · refine ih _ _ _ e t inv2 ht ?_ hu'
          rw [drop_at hih]
          unfold vcFlt
          rw [← drop_at hih]
          split
          · exact hv
          · rw [hoh]
            simp only
            rw [hlh]
            simp only
            exact ⟨hv, by rw [← pre_succ hih]; exact hstep⟩
        · obtain ⟨_, o, ho, hready⟩ := mem_ready.1 hi
          have ho' : ops[i]? = some o := by simpa using ho
          have hit : k = t := by
            rcases Nat.eq_or_lt_of_le (Nat.not_lt.1 hkt) with h2 | h2
            · exact h2.symm
            · exfalso
              have ha := heavy_spec S hheavy t ih' oh hih hoh hlh
              have h3 := aft_spec (i := ih') inv.closed _ [ih'] (fun x hx hlx => by rw [List.mem_singleton] at hx; rw [hx] at hlx; exact hlx) ha i (by
                have : (S.drop (t + 1))[k - (t + 1)]? = some i := by rw [List.getElem?_drop, show t + 1 + (k - (t + 1)) = k by omega]; exact hkS
                exact List.mem_of_getElem? this) o ho' hready
              exact getD_tf (inv.rest t ih' (by rw [fapp_lt htl]; exact hih) (Nat.le_refl _)) h3
          subst hit
          rw [hkS] at hih; cases hih
          exact ⟨rfl, oh, hoh, hlh, by rw [fapp_take (Nat.le_of_lt hkl)]; exact hstep⟩
end
theorem vcFltT_sound {ro : Option Nat} {P : Program} {T : List Nat} {ops : List Oper} {id : Nat} {kn : Env → World → Prop} {kp : List PanicEntry → World → Prop} {Q : Exit → Act → World → Prop} {a : Act} {w : World} {e : Env}
    (hm : P.follows .mixedOrders = true)
    (hQn : ∀ e' a' w', kn e' w' → e'.fits a'.tmps → SameOff (dsts ops) a.tmps a'.tmps → a'.defers = a.defers → Q .normal a' w')
    (hQp : ∀ ch a' w', kp ch w' → a'.defers = a.defers → Q (.panic ch) a' w') (hL : ∀ d ∈ dsts ops, d < a.tmps.size)
    (h : vcFltT P T ops e w kn kp) (hf : e.fits a.tmps) : (Code.region id ops.toArray true).wpIn (FW ro) 0 P Q a w := by
  unfold vcFltT at h
  split at h
  · exact h.elim
  rename_i f S
  split at h
  · exact h.elim
  · rename_i hok
    unfold fltOk at hok
    simp only [Bool.and_eq_true] at hok
    obtain ⟨⟨⟨⟨⟨⟨⟨hlook, hnd⟩, hlow⟩, hSn⟩, hcov⟩, hSlt⟩, hheavy⟩, hfl⟩ := hok
    have hnd' := nodupB_spec _ hnd
    have hSn' := nodupB_spec _ hSn
    have hlook' : ∀ o ∈ ops, looksB ops o = true := fun o ho => List.all_eq_true.1 hlook o ho
    have hlt : ∀ i ∈ f :: S, i < ops.length := fun i hi => by
      have := List.all_eq_true.1 hSlt i hi
      simpa using this
    have hfl' : ∃ o, ops[f]? = some o ∧ lightB P o = false := by
      split at hfl
      · rename_i o ho; exact ⟨o, ho, by simpa using hfl⟩
      · cases hfl
    have hno : ∀ d ∈ dsts ops, (e.drop (dsts ops)).get d = none := fun d hd => by
      rw [get_drop, if_pos]; rw [memB_iff]; exact hd
    have hf0 : (e.drop (dsts ops)).fits a.tmps := fits_drop hf _
    have hfalse : ∀ (i : Nat) (b : Bool), (Array.replicate ops.toArray.size false).getD i b = true → ¬ i < ops.length ∧ b = true := fun i b hb => by
      by_cases hlt : i < ops.length
      · simp [hlt] at hb
      · refine ⟨hlt, ?_⟩
        simp [hlt] at hb; exact hb
    refine wpIn_region_any hm ?_
    have hrest : ∀ (k i : Nat), (S ++ [f])[k]? = some i → 0 ≤ k → (Array.replicate ops.toArray.size false).getD i true = false := fun k i hk _ => by
      have hlt : i < ops.length := hlt i ((List.perm_append_singleton f S).mem_iff.1 (List.mem_of_getElem? hk))
      simp [hlt]
    refine flt_any (t := 0) (e := e.drop (dsts ops)) hnd' hlook' hlow hSn' (fun i hi => (memB_iff _ _).1 (List.all_eq_true.1 hcov i (List.mem_range.2 hi))) hlt hheavy hfl' hL hQn hQp _ _ a { w with drawn := w.drawn + 1 } ⟨by simp, fun j oj _ hl => ?_, fun k i o _ hk => absurd hk (by omega), hrest, rfl, SameOff.refl _ _, fun n v hn => .inl (hf0 n v hn), fun k i o d _ _ ho hd => hno d (mem_dsts hd (List.mem_of_getElem? ho)), fun k i o _ hk => absurd hk (by omega)⟩ (Nat.zero_le _) (h _ (Below.refl _ w).drew) ?_
    · have := (hfalse _ _ hl).2; cases this
    · unfold unl
      have : (Array.replicate ops.toArray.size false).toList = List.replicate ops.toArray.size false := by simp
      rw [this]
      have hc : ∀ n : Nat, (List.replicate n false).countP (fun b => !b) = n := fun n => by
        induction n with
        | zero => rfl
        | succ n ih => simp [List.replicate_succ, ih]
      rw [hc]
end Go.Vc
namespace Go.Vc
open Go Go.RowKit
theorem dsts_sublist {l m : List Oper} (h : l.Sublist m) : (dsts l).Sublist (dsts m) := by
  induction h with
  | slnil => exact List.Sublist.refl _
  | cons x _ ih => rw [dsts_cons x]; exact List.Sublist.trans ih (List.sublist_append_right _ _)
  | cons_cons x _ ih => rw [dsts_cons x, dsts_cons x]; exact List.Sublist.append (List.Sublist.refl _) ih
theorem late_cls {P : Program} {l : Lates} {o : Oper} {x : LK} (h : lateOf P l o = some x) : cls P o.op = 0 ∧ isLoad o.op = false := by
  obtain ⟨dst, op, type, pos, after, guard⟩ := o
  unfold lateOf at h
  cases guard with
  | some g => simp at h
  | none =>
    cases dst with
    | none => simp at h
    | some d =>
      simp only at h
      split at h
      · exact ⟨rfl, rfl⟩
      · exact ⟨rfl, rfl⟩
      · exact ⟨rfl, rfl⟩
      · rename_i c
        split at h
        · rename_i hcal
          split at h
          · split at h
            · split at h
              · rename_i t0 ht0
                split at h
                · rename_i hsl
                  have hmp : isMp P t0 = false := by
                    unfold isSl at hsl
                    unfold isMp
                    split at hsl
                    · rename_i hu; rw [hu]
                    · cases hsl
                  refine ⟨?_, rfl⟩
                  simp only [cls, hcal, ht0, hmp]
                · cases h
              · cases h
            · cases h
          · cases h
        · cases h
      · cases h
theorem countP_not_replicate (n : Nat) (b : Bool) : (List.replicate n b).countP (fun b => !b) = if b then 0 else n := by
  rw [List.countP_replicate]; cases b <;> simp
theorem preL_spec (T : List Nat) : ∀ (l : List (Oper × Nat)), ∀ o, o ∈ preL T l ↔ ∃ i, (o, i) ∈ l ∧ i ∉ T
  | [], o => by simp [preL]
  | (x, j) :: r, o => by
    simp only [preL]
    split
    · rename_i hm
      have hj := (memB_iff _ _).1 hm
      rw [preL_spec T r o]
      constructor
      · rintro ⟨i, h1, h2⟩; exact ⟨i, by simp [h1], h2⟩
      · rintro ⟨i, h1, h2⟩
        rcases List.mem_cons.1 h1 with h | h
        · cases h; exact absurd hj h2
        · exact ⟨i, h, h2⟩
    · rename_i hm
      have hj := (memB_false _ _).1 hm
      rw [List.mem_cons, preL_spec T r o]
      constructor
      · rintro (h | ⟨i, h1, h2⟩)
        · subst h; exact ⟨j, by simp, hj⟩
        · exact ⟨i, by simp [h1], h2⟩
      · rintro ⟨i, h1, h2⟩
        rcases List.mem_cons.1 h1 with h | h
        · cases h; exact .inl rfl
        · exact .inr ⟨i, h, h2⟩
theorem preL_sub (T : List Nat) : ∀ (l : List (Oper × Nat)), (preL T l).Sublist (l.map (·.1))
  | [] => List.Sublist.refl _
  | (x, j) :: r => by
    simp only [preL, List.map_cons]
    split
    · exact (preL_sub T r).trans (List.sublist_cons_self _ _)
    · exact (preL_sub T r).cons_cons _
theorem preL_sublist (T : List Nat) (ops : List Oper) : (preL T ops.zipIdx).Sublist ops := by
  have := preL_sub T ops.zipIdx
  rwa [List.zipIdx_map_fst] at this
theorem preL_mem {T : List Nat} {ops : List Oper} {i : Nat} {o : Oper} (ho : ops[i]? = some o) (hi : i ∉ T) : o ∈ preL T ops.zipIdx :=
  (preL_spec T _ o).2 ⟨i, by rw [List.mem_zipIdx_iff_getElem?]; exact ho, hi⟩
theorem preL_idx {T : List Nat} {ops : List Oper} {o : Oper} (ho : o ∈ preL T ops.zipIdx) : ∃ i, i ∉ T ∧ ops[i]? = some o := by
  obtain ⟨i, h1, h2⟩ := (preL_spec T _ o).1 ho
  exact ⟨i, h2, by rw [List.mem_zipIdx_iff_getElem?] at h1; exact h1⟩
theorem vcDrawT_sound {ro : Option Nat} {P : Program} {T : List Nat} {ops : List Oper} {id : Nat} {kn : Env → World → Prop} {kp : List PanicEntry → World → Prop} {Q : Exit → Act → World → Prop} {a : Act} {w : World} {e : Env}
    (hm : P.follows .mixedOrders = true)
    (hQn : ∀ e' a' w', kn e' w' → e'.fits a'.tmps → SameOff (dsts ops) a.tmps a'.tmps → a'.defers = a.defers → Q .normal a' w')
    (hQp : ∀ ch a' w', kp ch w' → a'.defers = a.defers → Q (.panic ch) a' w') (hL : ∀ d ∈ dsts ops, d < a.tmps.size)
    (h : vcDrawT P T ops e w kn kp) (hf : e.fits a.tmps) : (Code.region id ops.toArray true).wpIn (FW ro) 0 P Q a w := by
  unfold vcDrawT at h
  split at h
  · exact h.elim
  · rename_i hok
    unfold okDraw at hok
    simp only [Bool.and_eq_true] at hok
    obtain ⟨⟨⟨⟨⟨⟨hlook, hnd⟩, hlow⟩, hTn⟩, hsel⟩, hchain⟩, hfloat⟩ := hok
    have hTnd := nodupB_spec _ hTn
    have hpre : (preL T ops.zipIdx).Sublist ops := preL_sublist T ops
    have hnd' := nodupB_spec _ hnd
    have hlook' : ∀ o ∈ ops, looksB ops o = true := fun o ho => List.all_eq_true.1 hlook o ho
    have hsub : ∀ {l : List Oper}, l.Sublist ops → (dsts l).Sublist (dsts ops) := dsts_sublist
    have hndt : (dsts (preL T ops.zipIdx)).Nodup := (hsub hpre).nodup hnd'
    have hno : ∀ d ∈ dsts ops, (e.drop (dsts ops)).get d = none := fun d hd => by
      rw [get_drop, if_pos]; rw [memB_iff]; exact hd
    have hmemt : ∀ {i : Nat} {o : Oper}, ops[i]? = some o → i ∉ T → o ∈ preL T ops.zipIdx := fun ho him => preL_mem ho him
    have hidx : ∀ {o : Oper}, o ∈ preL T ops.zipIdx → ∃ i, i ∉ T ∧ ops[i]? = some o := fun ho => preL_idx ho
    obtain ⟨e1, hA, hs1, hout, hdet, hnoA⟩ := vcQ_out (preL T ops.zipIdx) (e.drop (dsts ops)) [] hndt (fun d hd => hno d ((hsub hpre).subset hd)) h
    obtain ⟨AL, hal, hALs, hALu, hALn, hfin⟩ := vcA_out (preL T ops.zipIdx) [] hndt hA
    obtain ⟨_, hF2, hF3, hF4⟩ := latesF_spec (P := P) (preL T ops.zipIdx) [] hndt (fun _ _ => rfl)
    have hLT : ∀ o ∈ lateL P (preL T ops.zipIdx) [], isAl P o = false ∧ o.guard = none ∧ ∃ x d, lateOf P (latesF P (preL T ops.zipIdx) []) o = some x ∧ o.dst = some d ∧ (latesF P (preL T ops.zipIdx) []).get d = some x :=
      fun o ho => ⟨(lateL_sub _ _ o ho).2.1, (lateL_sub _ _ o ho).2.2.1, hF3 o ho⟩
    have hLTc : ∀ o ∈ lateL P (preL T ops.zipIdx) [], cls P o.op = 0 ∧ isLoad o.op = false := fun o ho => by
      obtain ⟨_, _, x, d, hl, _⟩ := hLT o ho
      exact late_cls hl
    have hnone : ∀ i o d, ops[i]? = some o → ((isAl P o = true ∨ o ∈ lateL P (preL T ops.zipIdx) []) ∨ i ∈ T) → o.dst = some d → e1.get d = none := by
      intro i o d ho hc hd
      rcases Classical.em (i ∈ T) with him | him
      · have hnt : d ∉ dsts (preL T ops.zipIdx) := fun hdt => by
          obtain ⟨j, oj, hj, hjd⟩ := dsts_mem hdt
          obtain ⟨k, hkT, hk⟩ := hidx (List.mem_of_getElem? hj)
          have := same_dst hnd' ho hk hd hjd
          exact hkT (this ▸ him)
        rw [hout d hnt]
        exact hno d (mem_dsts hd (List.mem_of_getElem? ho))
      · rcases hc with hc | hc
        · exact hnoA o (hmemt ho him) hc d hd
        · exact absurd hc him
    have hf0 : (e.drop (dsts ops)).fits a.tmps := fits_drop hf _
    refine wpIn_region_any hm ?_
    have hinit : DInv P ops T a w e1 AL (lateL P (preL T ops.zipIdx) []) (latesF P (preL T ops.zipIdx) []) (Array.replicate ops.toArray.size false) a { w with drawn := w.drawn + 1 } := by
      refine ⟨by simp, fun j oj _ hl => ?_, fun t ht => getD_in (by simpa using chainOk_lt hchain t ht) (getD_replicate_false _ _), ?_, rfl, SameOff.refl _ _, ?_, ?_, ?_, ?_⟩
      · rw [getD_replicate_false] at hl; cases hl
      · exact (Below.refl _ w).drew
      · intro i o d _ hl; rw [getD_replicate_false] at hl; cases hl
      · intro o _ i _ hl; rw [getD_replicate_false] at hl; cases hl
      · intro i o d n _ hl; rw [getD_replicate_false] at hl; cases hl
      · exact ⟨fun _ => (0, 0), (fun p _ i d _ hl => by rw [getD_replicate_false] at hl; cases hl), (fun p _ q _ i j d c _ _ hl => by rw [getD_replicate_false] at hl; cases hl)⟩
    have hu0 : unl (Array.replicate ops.toArray.size false) = ops.toArray.size := by
      unfold unl
      have : (Array.replicate ops.toArray.size false).toList = List.replicate ops.toArray.size false := by simp
      rw [this, countP_not_replicate]; rfl
    refine dinv_any (e0 := e.drop (dsts ops)) hnd' hlook' hlow hchain hf0 (fun n hn => hout n fun hd => hn ((hsub hpre).subset hd)) hL
      (fun i o ho him => hdet o (hmemt ho him)) hnone hLT
      (fun i o d ho him hisal hd => hF2 o (hmemt ho him) hisal d hd)
      (fun t y hF => by
        rcases hF4 t y hF with h | ⟨o, ho, hd, hc⟩
        · cases h
        · obtain ⟨j, _, hj⟩ := hidx ho
          exact ⟨j, o, hj, hd, hc⟩)
      (fun i o ho him hisal => hal o (hmemt ho him) hisal) (fun p hp => ⟨(hALs p hp).1, (hALs p hp).2.2.1⟩) hALu ?_ _ _ _ _ hinit hu0
    -- behind the first part: but for those that come late
    intro listed a' w' f inv hall hu
    have hsz : listed.size = ops.length := inv.size
    have hclosed : ∀ j oj, ops[j]? = some oj → listed.getD j false = true → ∀ x ∈ oj.after, Region.binds .any x = true → listed.getD x.on false = true := inv.closed
    have hfl : ∀ i o, i ∉ T → ops[i]? = some o → listed.getD i true = false → floatB P o = true ∧ memB (sunk ops T) i = false := by
      intro i o him ho hun
      unfold floatersOk at hfloat
      have h1 := List.all_eq_true.1 hfloat i (List.mem_range.2 (List.getElem?_eq_some_iff.1 ho).1)
      split at h1
      · rename_i hs
        exact absurd ((memB_iff _ _).1 hs) him
      · split at h1
        · rename_i hs
          exact absurd (hall i him ((memB_iff _ _).1 hs)) (fun h => getD_tf hun h)
        · rename_i hs
          rw [ho] at h1
          exact ⟨h1, hs⟩
    let R : Nat → Value → Prop := fun n v => a'.tmps[n]? = some v ∨ Pend ops T listed n
    have hR1 : ∀ n v, e1.get n = some v → R n v := by
      intro n v hn
      by_cases hd : n ∈ dsts ops
      · obtain ⟨j, oj, hj, hjd⟩ := dsts_mem hd
        have hjal : isAl P oj = false := by
          cases hq : isAl P oj with
          | false => rfl
          | true => rw [hnone j oj n hj (.inl (.inl hq)) hjd] at hn; cases hn
        have hjlt : oj ∉ lateL P (preL T ops.zipIdx) [] := fun hq => by rw [hnone j oj n hj (.inl (.inr hq)) hjd] at hn; cases hn
        have hjm : j ∉ T := fun h => by rw [hnone j oj n hj (.inr h) hjd] at hn; cases hn
        have hjl := (List.getElem?_eq_some_iff.1 hj).1
        by_cases hlj : listed.getD j false = true
        · exact .inl (by rw [inv.det j oj n hj hlj hjal hjlt hjd]; exact hn)
        · exact .inr ⟨j, oj, hjm, hj, hjd, unl_false (by omega) hlj⟩
      · refine .inl ?_
        rw [inv.same.2 n (by rw [memB_false]; exact hd)]
        refine hf0 n v ?_
        rw [← hout n fun h => hd ((hsub hpre).subset h)]; exact hn
    obtain ⟨iv, hiv1, hiv2⟩ := inv.al
    have hlisted : ∀ p ∈ AL, ∃ j, ops[j]? = some p.1 ∧ listed.getD j false = true := fun p hp => by
      obtain ⟨j, hjm, hj⟩ := hidx (hALs p hp).2.1
      have hjl := (List.getElem?_eq_some_iff.1 hj).1
      refine ⟨j, hj, ?_⟩
      by_cases hlj : listed.getD j false = true
      · exact hlj
      · have := (hfl j p.1 hjm hj (unl_false (by omega) hlj)).1
        have h2 := (floatB_spec this).2.1
        rw [(hALs p hp).2.2.1] at h2; cases h2
    obtain ⟨e2, hR2, hk, hag⟩ := finA_pend (R := R) (iv := iv) _ _ e1 hR1 (fun x hx => by
      simp only [List.nil_append, List.mem_map] at hx
      obtain ⟨p, hp, rfl⟩ := hx
      obtain ⟨j, hj, hlj⟩ := hlisted p hp
      obtain ⟨d, hd⟩ := (hALs p hp).2.2.2
      obtain ⟨v, hv1, h2, h3, h4, hv2⟩ := hiv1 p hp j d hj hlj hd
      exact ⟨d, v, hd, .inl hv1, h2, h3, h4, hv2⟩) (by rw [List.nil_append, List.map_map]; exact hALn) (fun x hx y hy d c hd hc hdc => by
      simp only [List.nil_append, List.mem_map] at hx hy
      obtain ⟨p, hp, rfl⟩ := hx
      obtain ⟨q, hq, rfl⟩ := hy
      obtain ⟨j, hj, hlj⟩ := hlisted p hp
      obtain ⟨j', hj', hlj'⟩ := hlisted q hq
      exact hiv2 p hp q hq j j' d c hj hj' hlj hlj' hd hc hdc) (fun x _ d _ p hp => by cases hp) (hfin w' inv.below)
    have hs12 : Sub e1 e2 := fun n v hn => by
      rw [hag n ?_]
      · exact hn
      · intro x hx hxn
        simp only [List.nil_append, List.mem_map] at hx
        obtain ⟨p, hp, rfl⟩ := hx
        obtain ⟨j, hjm, hj⟩ := hidx (hALs p hp).2.1
        rw [hnone j p.1 n hj (.inl (.inl (hALs p hp).2.2.1)) hxn] at hn
        cases hn
    have he2n : ∀ i o d, ops[i]? = some o → (o ∈ lateL P (preL T ops.zipIdx) [] ∨ i ∈ T) → o.dst = some d → e2.get d = none := by
      intro i o d ho hc hd
      rw [hag d ?_]
      · exact hnone i o d ho (hc.elim (fun h => .inl (.inr h)) .inr) hd
      · intro x hx hxd
        simp only [List.nil_append, List.mem_map] at hx
        obtain ⟨p, hp, rfl⟩ := hx
        obtain ⟨j, hjm, hj⟩ := hidx (hALs p hp).2.1
        have hij := same_dst hnd' ho hj hd hxd
        subst hij
        have : o = p.1 := Option.some.inj (ho.symm.trans hj)
        rcases hc with hc | hc
        · have h1 := (hLT o hc).1
          rw [this, (hALs p hp).2.2.1] at h1; cases h1
        · exact hjm hc
    obtain ⟨e3, hR3, hk3, hs23, hag3, hlate⟩ := late_pend (R := R) (lateL P (preL T ops.zipIdx) []) e2 hR2 ((dsts_sublist (lateL_sublist _ _)).nodup hndt) (fun o ho => by
        obtain ⟨h1, h2, h3, d, hd⟩ := lateL_sub _ _ o ho
        obtain ⟨j, hjm, hj⟩ := hidx h1
        exact ⟨h3, (hLTc o ho).1, d, hd, he2n j o d hj (.inl ho) hd⟩) (fun o ho e' v d hR' hs hk' hrun hd => by
        obtain ⟨h1, h2, h3, _⟩ := lateL_sub _ _ o ho
        obtain ⟨j, hjm, hj⟩ := hidx h1
        have hjl := (List.getElem?_eq_some_iff.1 hj).1
        by_cases hlj : listed.getD j false = true
        · obtain ⟨v0, hv1, hv2⟩ := inv.late o ho j hj hlj
          have hagree : ∀ x ∈ o.op.operands, rho e' x = a'.eval x := by
            intro x hx
            have key : ∀ (l : List Operand), knownL e' l = true → x ∈ l → ∃ v, ev e' x = some v := by
              intro l
              induction l with
              | nil => intro _ h; cases h
              | cons y r ihr =>
                intro hk h
                simp only [knownL] at hk
                split at hk
                · rename_i v hv
                  cases h with
                  | head => exact ⟨v, hv⟩
                  | tail _ h => exact ihr hk h
                · cases hk
            obtain ⟨u, hu'⟩ := key _ hk' (by simpa using hx)
            unfold rho; rw [hu']
            cases x with
            | tmp t =>
              have hlk : t ∈ o.looksAt ops.toArray := by
                unfold Oper.looksAt
                exact List.mem_append_left _ (List.mem_filterMap.2 ⟨.tmp t, by simpa using hx, rfl⟩)
              have hnp : ¬ Pend ops T listed t := by
                rintro ⟨i, oi, hi, hoi, hid, hiun⟩
                obtain ⟨y, hy, hyb, hyo⟩ := looksB_spec (hlook' o (List.mem_of_getElem? hj)) hlk hoi hid
                have := hclosed j o hj hlj y hy hyb
                rw [hyo] at this
                exact getD_tf hiun this
              have := (hR' t u hu').resolve_right hnp
              simp [Act.eval, this]
            | const u => cases hu'; rfl
            | global g => cases hu'; rfl
            | func g => cases hu'; rfl
          have h4 := hrun w'
          rw [execOp_congr o (not_select hs) hagree, hv2 w'] at h4
          cases h4
          exact .inl (hv1 d hd)
        · exact .inr ⟨j, o, hjm, hj, hd, unl_false (by omega) hlj⟩) hk
    refine tail_any (fl := lateLoads ops T) (e := e3) (t := 0) hnd' hlook' hlow hchain hTnd hL hQn hQp f listed a' w' ⟨hsz, hclosed, fun k i h1 h2 => by omega, fun k i h1 h2 => inv.tun i (List.mem_of_getElem? h1), inv.defers, inv.same, hR3, ?_, ?_⟩ (by simpa using hk3) hu
    · intro k i o d hk _ ho hd
      have him := List.mem_of_getElem? hk
      rw [hag3 d ?_]
      · exact he2n i o d ho (.inr him) hd
      · intro hdl
        obtain ⟨j, oj, hj, hjd⟩ := dsts_mem hdl
        have hjl := List.mem_of_getElem? hj
        obtain ⟨h1, _⟩ := lateL_sub _ _ oj hjl
        obtain ⟨k', hkm, hk'⟩ := hidx h1
        have := same_dst hnd' ho hk' hd hjd
        exact hkm (this ▸ him)
    · intro i o him ho hun
      obtain ⟨hfb, hns⟩ := hfl i o him ho hun
      obtain ⟨hg, hnal, hsel', hcl⟩ := floatB_spec hfb
      rcases hdet o (hmemt ho him) with h1 | h1 | h1
      · rw [hnal] at h1; cases h1
      · obtain ⟨_, hkn, v, hv1, hv2⟩ := hlate o h1
        exact ⟨hfb, hkn, v, hv1, hv2 w', fun _ => hv2, fun hl => by rw [(hLTc o h1).2] at hl; cases hl⟩
      · obtain ⟨v, hv, hc⟩ := h1
        have hwant : wantE ops e1 o = some true := by unfold wantE; rw [hg]
        rcases hc with ⟨_, hs, hkn, hpl, _⟩ | ⟨hw, _⟩
        · have hs13 := hs12.trans hs23
          obtain ⟨hk2, hr2⟩ := knownL_sub hs13 _ hkn
          have hex := execOp_congr o (not_select hs) (fun x hx => hr2 x (by simpa using hx))
          refine ⟨hfb, hk2, v, fun d hd => hs13 _ _ (hv d hd), ?_, fun hl w'' => ?_, fun hl => ⟨?_, ?_⟩⟩
          · rw [← hex]
            rcases hcl with hcl | ⟨hcl, _⟩
            · exact hpl.1 hcl w'
            · exact hpl.2 hcl w' inv.below
          · rw [← hex]
            rcases hcl with hcl | ⟨hcl, _⟩
            · exact hpl.1 hcl w''
            · rw [hcl] at hl; cases hl
          · unfold lateLoads
            have hmT : memB T i = false := by rw [memB_false]; exact him
            refine List.mem_filter.2 ⟨?_, by simp [hl, hns, hmT]⟩
            rw [List.mem_zipIdx_iff_getElem?]
            exact ho
          · rcases hcl with hcl | ⟨_, hd⟩
            · rw [isLoad_cls hl] at hcl; cases hcl
            · exact hd
        · rw [hwant] at hw; cases hw
theorem vcDraw_sound {ro : Option Nat} {P : Program} {plan : Plan} {id : Nat} {ops : List Oper} {kn : Env → World → Prop} {kp : List PanicEntry → World → Prop} {Q : Exit → Act → World → Prop} {a : Act} {w : World} {e : Env}
    (hm : P.follows .mixedOrders = true)
    (hQn : ∀ e' a' w', kn e' w' → e'.fits a'.tmps → SameOff (dsts ops) a.tmps a'.tmps → a'.defers = a.defers → Q .normal a' w')
    (hQp : ∀ ch a' w', kp ch w' → a'.defers = a.defers → Q (.panic ch) a' w') (hL : ∀ d ∈ dsts ops, d < a.tmps.size)
    (h : vcDraw P plan id ops e w kn kp) (hf : e.fits a.tmps) : (Code.region id ops.toArray true).wpIn (FW ro) 0 P Q a w := by
  unfold vcDraw at h
  split at h
  · exact vcDrawT_sound hm hQn hQp hL h hf
  · split at h
    · exact vcSeqT_sound hm hQn hQp hL h hf
    · split at h
      · exact vcSeqO_sound hm hQn hQp hL h hf
      · split at h
        · exact vcFltT_sound hm hQn hQp hL h hf
        · exact vcDrawT_sound hm hQn hQp hL h hf
  · exact vcDrawT_sound hm hQn hQp hL h hf
def QOf (l : List Nat) (pl : Bool) (ds : List Deferred) (a0 : Act) (kn : List Deferred → Env → World → Prop) (kx : Nat → List Deferred → Env → World → Prop) (kr : List Deferred → Env → World → Prop) (kp : List PanicEntry → World → Prop) : Exit → Act → World → Prop
  | .normal, a, w => ∃ e, e.fits a.tmps ∧ SameOff l a0.tmps a.tmps ∧ (pl = true → a.defers = ds) ∧ kn a.defers e w
  | .exit id, a, w => ∃ e, e.fits a.tmps ∧ SameOff l a0.tmps a.tmps ∧ (pl = true → a.defers = ds) ∧ kx id a.defers e w
  | .ret, a, w => ∃ e, e.fits a.tmps ∧ SameOff l a0.tmps a.tmps ∧ (pl = true → a.defers = ds) ∧ kr a.defers e w
  | .panic ch, a, w => a.defers = [] ∧ kp ch w
  | _, _, _ => False
theorem kpD_out {kp : List PanicEntry → World → Prop} {ds : List Deferred} {ch : List PanicEntry} {w : World} (h : kpD kp ds ch w) : ds = [] ∧ kp ch w := by
  cases ds with
  | nil => exact ⟨rfl, h⟩
  | cons d r => exact h.elim
section scope
variable {P : Program} {b : Frame} {a : Act} {k : List Item} {cs : List Frame} {w : World} {Q : Exit → Act → World → Prop}
theorem stepR_scope {c : Code} : step P (lone (b.atR a (.code (.scope c) :: k)) cs w) = .next (lone (b.atR a (.code c :: .inScope c :: k)) cs w) :=
  step_lone_go (by simp [stepG, stepG.exec, Frame.atR])
theorem stepR_inScope {c : Code} : step P (lone (b.atR a (.inScope c :: k)) cs w) = .next (lone (b.atR a k) cs w) :=
  step_lone_go (by simp [stepG, stepG.exec, Frame.atR])
theorem wpIn_scope_straight {F : Fence} {n : Nat} {c : Code} (h : c.wpIn F n P (Exit.noGoto Q) a w) : (Code.scope c).wpIn F n P Q a w := by
  intro b k cs hro hb hr
  have h0 : (lone (b.atR a (.code (.scope c) :: k)) cs w).fenced P F := fenced_calm hb hr rfl
  obtain ⟨e, a₁, w₁, hq, harr⟩ := h b (.inScope c :: k) cs hro hb hr
  cases e with
  | normal => exact ⟨.normal, a₁, w₁, hq, .head h0 stepR_scope (StepsIn.trans harr (.one (fenced_calm hb hr rfl) stepR_inScope))⟩
  | exit id =>
    have hx : exitTo id (.inScope c :: k) = exitTo id k := by simp [exitTo]
    exact ⟨.exit id, a₁, w₁, hq, fun k' hk => .head h0 stepR_scope (harr.1 k' (by rw [hx]; exact hk)),
      fun hr' hk => let ⟨k₁, h1, h2⟩ := harr.2 hr' (by rw [hx]; exact hk); ⟨k₁, h1, .head h0 stepR_scope h2⟩⟩
  | goto l => exact hq.elim
  | ret => exact ⟨_, a₁, w₁, hq, .of_steps (.one h0 stepR_scope) harr⟩
  | panic ch => exact ⟨_, a₁, w₁, hq, .of_steps (.one h0 stepR_scope) harr⟩
  | outgrown => exact ⟨_, a₁, w₁, hq, .of_steps (.one h0 stepR_scope) harr⟩
end scope
theorem asAll_out {P : Program} {ty : Nat → Option TypeId} {k : Env → Prop} {a : Array Value} : ∀ (L : List Nat) (i : Nat) (s : List Value) (acc : Env), acc.fits a → (∀ j n, L[j]? = some n → a[n]? = some (s.getD (i + j) undef)) → asAll P ty k L i s acc →
    ∃ e, e.fits a ∧ k e
  | [], i, s, acc, hf, _, h => ⟨acc, hf, h⟩
  | n :: r, i, s, acc, hf, hL, h => by
    have h0 : a[n]? = some (s.getD i undef) := by simpa using hL 0 n rfl
    have hf' : Env.fits ((n, s.getD i undef) :: acc) a := by
      intro x v hx
      rw [get_cons] at hx
      split at hx
      · rename_i he; subst he; cases hx; exact h0
      · exact hf x v hx
    have hL' : ∀ j m, r[j]? = some m → a[m]? = some (s.getD (i + 1 + j) undef) := fun j m hj => by
      have := hL (j + 1) m (by simpa using hj)
      rwa [show i + 1 + j = i + (j + 1) by omega]
    simp only [asAll] at h
    split at h
    · exact asAll_out r (i + 1) s _ hf' hL' h.out
    · exact asAll_out r (i + 1) s _ hf' hL' h
theorem getAll_fits {e : Env} {a : Array Value} (hf : e.fits a) : ∀ (L : List Nat) (s : List Value), getAll e L = some s → s.length = L.length ∧ ∀ (j : Nat) (n : Nat), L[j]? = some n → a[n]? = some (s.getD j undef)
  | [], s, h => by simp [getAll] at h; subst h; exact ⟨rfl, fun j n hj => by simp at hj⟩
  | n :: r, s, h => by
    simp only [getAll] at h
    split at h
    · rename_i v hv
      split at h
      · rename_i l hl
        cases h
        obtain ⟨h1, h2⟩ := getAll_fits hf r l hl
        refine ⟨by simp [h1], fun j m hj => ?_⟩
        cases j with
        | zero => simp at hj; subst hj; simpa using hf n v hv
        | succ j => simp at hj; simpa using h2 j m hj
      · cases h
    · cases h
theorem fits_append {e f : Env} {a : Array Value} (he : e.fits a) (hf : f.fits a) : Env.fits (e ++ f) a := by
  intro n v hn
  rw [get_append] at hn
  split at hn
  · rename_i u hu; cases hn; exact he n v hu
  · exact hf n v hn
def okCode (N : Nat) (c : Code) : Bool := dstBelow N (written c)
theorem dstBelow_spec {N : Nat} : ∀ {l : List Nat}, dstBelow N l = true → ∀ d ∈ l, d < N
  | [], _, d, hd => by cases hd
  | x :: r, h, d, hd => by
    simp only [dstBelow] at h
    split at h
    · rename_i hb
      cases hd with
      | head => simpa [Nat.blt_eq] using hb
      | tail _ hd => exact dstBelow_spec h d hd
    · cases h
theorem puts_list : ∀ (l : List (Nat × Value)) (t : Array Value), (l.map (·.1)).Nodup → (∀ p ∈ l, p.1 < t.size) →
    (l.foldl (fun (tmps : Array Value) (x : Nat × Value) => tmps.setIfInBounds x.1 x.2) t).size = t.size ∧
    (∀ p ∈ l, (l.foldl (fun (tmps : Array Value) (x : Nat × Value) => tmps.setIfInBounds x.1 x.2) t)[p.1]? = some p.2) ∧
    ∀ n, n ∉ l.map (·.1) → (l.foldl (fun (tmps : Array Value) (x : Nat × Value) => tmps.setIfInBounds x.1 x.2) t)[n]? = t[n]?
  | [], t, _, _ => ⟨rfl, (fun p hp => nomatch hp), (fun n _ => rfl)⟩
  | q :: r, t, hnd, hlt => by
    simp only [List.map_cons, List.nodup_cons] at hnd
    obtain ⟨h1, h2, h3⟩ := puts_list r (t.setIfInBounds q.1 q.2) hnd.2 (fun p hp => by simpa using hlt p (by simp [hp]))
    simp only [List.foldl_cons]
    refine ⟨by rw [h1]; simp, fun p hp => ?_, fun n hn => ?_⟩
    · cases hp with
      | head => rw [h3 _ hnd.1]; exact Array.getElem?_setIfInBounds_self_of_lt (hlt _ (by simp))
      | tail _ hp => exact h2 p hp
    · simp only [List.map_cons, List.mem_cons, not_or] at hn
      rw [h3 n hn.2]
      exact Array.getElem?_setIfInBounds_ne (Ne.symm hn.1)
theorem zip_fst : ∀ (l : List Nat) (s : List Value), l.length = s.length → (l.zip s).map (·.1) = l
  | [], _, _ => rfl
  | x :: l, [], h => by simp at h
  | x :: l, y :: s, h => by simp [zip_fst l s (by simpa using h)]
theorem puts_fits {ps : Array Nat} {args tmps : Array Value} (hs : args.size = ps.size) (hnd : ps.toList.Nodup) (hlt : ∀ p ∈ ps.toList, p < tmps.size) :
    ((ps.zip args).foldl (fun tmps (t, a) => tmps.setIfInBounds t a) tmps).size = tmps.size ∧
    (∀ j n, ps.toList[j]? = some n → ((ps.zip args).foldl (fun tmps (t, a) => tmps.setIfInBounds t a) tmps)[n]? = some (args.toList.getD (0 + j) undef)) ∧
    ∀ n, n ∉ ps.toList → ((ps.zip args).foldl (fun tmps (t, a) => tmps.setIfInBounds t a) tmps)[n]? = tmps[n]? := by
  have e : ((ps.zip args).foldl (fun (tmps : Array Value) (x : Nat × Value) => match x with | (t, a) => tmps.setIfInBounds t a) tmps) = ((ps.toList.zip args.toList).foldl (fun (tmps : Array Value) (x : Nat × Value) => tmps.setIfInBounds x.1 x.2) tmps) := by
    rw [← Array.foldl_toList, Array.toList_zip]
  have hz : (ps.toList.zip args.toList).map (·.1) = ps.toList := zip_fst _ _ (by simp [hs])
  obtain ⟨h1, h2, h3⟩ := puts_list (ps.toList.zip args.toList) tmps (by rw [hz]; exact hnd) (fun p hp => hlt _ (List.of_mem_zip hp).1)
  rw [hz] at h3
  refine ⟨by rw [← h1]; exact congrArg Array.size e, fun j n hj => ?_, fun n hn => by rw [← h3 n hn]; exact congrArg (·[n]?) e⟩
  have hjl : j < args.toList.length := by
    have := (List.getElem?_eq_some_iff.1 hj).1
    simp at this ⊢; omega
  have hp : (n, args.toList[j]) ∈ ps.toList.zip args.toList := by
    refine List.mem_of_getElem? (i := j) ?_
    rw [List.getElem?_zip_eq_some]
    exact ⟨hj, List.getElem?_eq_getElem hjl⟩
  have := h2 _ hp
  rw [Nat.zero_add, List.getD_eq_getElem?_getD, List.getElem?_eq_getElem hjl]
  exact (congrArg (·[n]?) e).trans this
theorem leapR_out {p : Option Code} : ∀ {l : List (Nat × Prop)}, leapR p l → ∃ i k, (i, k) ∈ l ∧ p = some (.exit i) ∧ k
  | [], h => h.elim
  | (i, k) :: r, h => by
    rcases h with ⟨h1, h2⟩ | h
    · exact ⟨i, k, by simp, h1, h2⟩
    · obtain ⟨j, k', h1, h2⟩ := leapR_out h
      exact ⟨j, k', by simp [h1], h2⟩
theorem range_sound {P : Program} {plan : Plan} {N : Nat} {g : Operand} {ps : Array Tmp} {x y : Code}
    {kn : List Deferred → Env → World → Prop} {kx : Nat → List Deferred → Env → World → Prop} {kr : List Deferred → Env → World → Prop} {kp : List PanicEntry → World → Prop} {e : Env} {a : Act} {w : World}
    (ihx : ∀ (ro : Nat) (kn : List Deferred → Env → World → Prop) (kx : Nat → List Deferred → Env → World → Prop) (kr : List Deferred → Env → World → Prop) (kp : List PanicEntry → World → Prop) (e : Env) (a : Act) (w : World),
      (some ro = none ∨ plainC x = true) → (∀ d ∈ written x, d < N) → a.tmps.size = N → e.fits a.tmps → vc P plan x kn kx kr kp a.defers e w → x.wpIn (FW (some ro)) 0 P (QOf (written x) (plainC x) a.defers a kn kx kr kp) a w)
    (ihy : ∀ (ro : Nat) (kn : List Deferred → Env → World → Prop) (kx : Nat → List Deferred → Env → World → Prop) (kr : List Deferred → Env → World → Prop) (kp : List PanicEntry → World → Prop) (e : Env) (a : Act) (w : World),
      (some ro = none ∨ plainC y = true) → (∀ d ∈ written y, d < N) → a.tmps.size = N → e.fits a.tmps → vc P plan y kn kx kr kp a.defers e w → y.wpIn (FW (some ro)) 0 P (QOf (written y) (plainC y) a.defers a kn kx kr kp) a w)
    (hN : ∀ d ∈ written (.rangeFunc g ps x y), d < N) (hs : a.tmps.size = N) (hf : e.fits a.tmps) (h : vc P plan (.rangeFunc g ps x y) kn kx kr kp a.defers e w) :
    (Code.rangeFunc g ps x y).wpIn (FW none) 0 P (QOf (written (.rangeFunc g ps x y)) (plainC (.rangeFunc g ps x y)) a.defers a kn kx kr kp) a w := by
  simp only [vc] at h
  split at h
  · exact h.elim
  rename_i hpl
  simp only [Bool.and_eq_true] at hpl
  obtain ⟨⟨hpx, hpy⟩, hnd⟩ := hpl
  have hnd' := nodupB_spec _ hnd
  split at h
  · exact h.elim
  rename_i gv hgv
  simp only [written, List.mem_append] at hN
  have hev : a.eval g = gv := by
    cases g with
    | tmp n => have := hf n _ hgv; simp [Act.eval, this]
    | const v => simp [ev] at hgv; simp [Act.eval, hgv]
    | global g => simp [ev] at hgv; simp [Act.eval, hgv]
    | func f => simp [ev] at hgv; simp [Act.eval, hgv]
  obtain ⟨f, lb, rb, rfl, hcall, hR⟩ := h
  refine wpIn_rangeFunc fun fn _ => ?_
  have h3 := hR (fun s p => .loop { state := s, pending := p, fn, tmps := a.tmps, params := ps, assign := x, body := y, defers := w.heap.size }) (fun s p => ⟨_, rfl⟩) ?_
  · refine ⟨w.heap.size + 1, [{ target := .collected w.heap.size, args := #[] }], ((w.alloc (.deferred (some []))).alloc (.loop { state := .ready, pending := none, fn, tmps := a.tmps, params := ps, assign := x, body := y, defers := w.heap.size })), { target := .fn (.func f) rb, args := lb ++ #[Value.func (.yield (w.heap.size + 1)) #[] #[]] }, ((w.alloc (.deferred (some []))).alloc (.loop { state := .ready, pending := none, fn, tmps := a.tmps, params := ps, assign := x, body := y, defers := w.heap.size })), f, lb ++ #[Value.func (.yield (w.heap.size + 1)) #[] #[]] ++ rb, ((w.alloc (.deferred (some []))).alloc (.loop { state := .ready, pending := none, fn, tmps := a.tmps, params := ps, assign := x, body := y, defers := w.heap.size })), run_enterLoop_outer fn a.tmps ps x y, ?_, fun _ _ => trivial, (show (callFunc f (lb ++ #[Value.func (.yield (w.heap.size + 1)) #[] #[]] ++ rb)).run P _ = _ from run_callFunc hcall _ _), (fun h => by cases h), ?_⟩
    · simp only [resolve, hev, Deferred.ofValue]
      simp [Act.eval]
    · refine CallsIn.mono (calls_FW (ro := none) h3) ?_
      rintro en W' ⟨v, rfl, s, p, hne, hrec, hk⟩
      refine ⟨p, _, run_endLoop hrec hne, ?_⟩
      rcases hk with ⟨rfl, hk⟩ | ⟨rfl, hk⟩ | hk
      · exact ⟨e, hf, SameOff.refl _ _, (fun h => by cases h), hk⟩
      · exact wpIn_ret ⟨e, hf, SameOff.refl _ _, (fun h => by cases h), hk⟩
      · obtain ⟨i, k, hm, rfl, hk⟩ := leapR_out hk
        simp only [List.map_map, List.mem_map, Function.comp] at hm
        obtain ⟨i', _, he⟩ := hm
        cases he
        exact wpIn_exit ⟨e, hf, SameOff.refl _ _, (fun h => by cases h), hk⟩
  · intro args W k hsz hrec hround
    have hrun : (callSem (.func (.yield (w.heap.size + 1)) #[] #[]) args).run P W = (Instr.yield (w.heap.size + 1) args).run P W := by
      simp [callSem, Deferred.ofValue, invoke]
    rw [Yield_iff]; unfold YieldR
    rw [hrun, run_yield hrec hsz]
    simp only
    obtain ⟨hq1, hq2, hq3⟩ := puts_fits (tmps := a.tmps) hsz hnd' (fun p hp => by rw [hs]; exact hN p (.inl (.inl hp)))
    generalize ((ps.zip args).foldl (fun tmps (t, a) => tmps.setIfInBounds t a) a.tmps) = tm at *
    obtain ⟨acc, hfa, hvc⟩ := asAll_out ps.toList 0 args.toList [] (fun n v hn => by cases hn) hq2 hround
    have hfb : (e.drop ps.toList).fits tm := by
      intro n v hn
      rw [get_drop] at hn
      split at hn
      · cases hn
      · rename_i hmb
        rw [hq3 n (by rw [← memB_false]; simpa using hmb)]
        exact hf n v hn
    refine roundIn_of_wpIn (F := Fence.wide) trivial ?_
    refine wpIn_mono (F := FW (some (w.heap.size + 1))) (ihx (w.heap.size + 1) _ _ _ _ _ { tmps := tm, defers := [] } W (.inr hpx) (fun d hd => hN d (.inl (.inr hd))) (by simp only; rw [hq1, hs]) (fits_append hfa hfb) hvc) fun ex a1 w1 hq => ?_
    cases ex with
    | normal =>
      obtain ⟨e1, hf1, hso1, hd1, hr1, hvc1⟩ := hq
      refine ⟨_, run_beginRound hr1 rfl, ?_⟩
      have hd1' := hd1 hpx
      simp only at hd1'
      refine wpIn_mono (F := FW (some (w.heap.size + 1))) (ihy (w.heap.size + 1) _ _ _ _ _ a1 _ (.inr hpy) (fun d hd => hN d (.inr hd)) (by rw [hso1.1]; simp only; rw [hq1, hs]) hf1 (by rw [hd1']; exact hvc1)) fun ex2 a2 w2 hq2 => ?_
      cases ex2 with
      | normal => obtain ⟨e2, hf2, hso2, hd2, hr2, hk2⟩ := hq2; exact ⟨_, _, run_endRound none hr2, hk2⟩
      | ret => obtain ⟨e2, hf2, hso2, hd2, hr2, hk2⟩ := hq2; exact ⟨_, _, run_endRound (some .ret) hr2, hk2⟩
      | exit i => obtain ⟨e2, hf2, hso2, hd2, hr2, hk2⟩ := hq2; exact ⟨_, _, run_endRound (some (.exit i)) hr2, hk2⟩
      | goto l => exact hq2.elim
      | panic ch => exact hq2.2.elim
      | outgrown => exact hq2.elim
    | exit i => obtain ⟨e2, hf2, hso2, hd2, hk2⟩ := hq; exact hk2.elim
    | ret => obtain ⟨e2, hf2, hso2, hd2, hk2⟩ := hq; exact hk2.elim
    | goto l => exact hq.elim
    | panic ch => exact hq.2.elim
    | outgrown => exact hq.elim
theorem vc_sound {P : Program} {plan : Plan} (hm : P.follows .mixedOrders = true) {N : Nat} : ∀ (c : Code) (ro : Option Nat) (kn : List Deferred → Env → World → Prop) (kx : Nat → List Deferred → Env → World → Prop) (kr : List Deferred → Env → World → Prop) (kp : List PanicEntry → World → Prop) (e : Env) (a : Act) (w : World),
    (ro = none ∨ plainC c = true) → (∀ d ∈ written c, d < N) → a.tmps.size = N → e.fits a.tmps → vc P plan c kn kx kr kp a.defers e w → c.wpIn (FW ro) 0 P (QOf (written c) (plainC c) a.defers a kn kx kr kp) a w := by
  intro c
  induction c with
  | skip =>
    intro ro kn kx kr kp e a w hro hN hs hf h
    exact wpIn_skip ⟨e, hf, SameOff.refl _ _, fun _ => rfl, h⟩
  | region id ops draw =>
    intro ro kn kx kr kp e a w hro hN hs hf h
    cases draw with
    | false =>
      simp only [vc] at h
      refine wpIn_region_list ?_
      have := vcOps_sound (ro := ro) (Q := QOf (dsts ops.toList) true a.defers a kn kx kr kp) (a0 := a) (L := dsts ops.toList) (fun e' a' w' hk hf' hso hd => ⟨e', hf', hso, fun _ => hd, by rw [hd]; exact hk⟩) (fun ch a' w' hk hd => ⟨hd.trans (kpD_out hk).1, (kpD_out hk).2⟩)
        (fun d hd => by rw [hs]; exact hN d hd) ops.toList e a w (fun d hd => hd) h hf (SameOff.refl _ _) rfl
      simpa [written, plainC] using this
    | true =>
      simp only [vc] at h
      have := vcDraw_sound (ro := ro) (id := id) (Q := QOf (dsts ops.toList) true a.defers a kn kx kr kp) hm (fun e' a' w' hk hf' hso hd => ⟨e', hf', hso, fun _ => hd, by rw [hd]; exact hk⟩) (fun ch a' w' hk hd => ⟨hd.trans (kpD_out hk).1, (kpD_out hk).2⟩)
        (fun d hd => by rw [hs]; exact hN d hd) h hf
      simpa [written, plainC] using this
  | seq x y ihx ihy =>
    intro ro kn kx kr kp e a w hro hN hs hf h
    simp only [vc] at h
    simp only [written] at hN ⊢
    have hpx : ∀ {b : Bool}, (match plainC x with | true => plainC y | false => false) = true → plainC x = true ∧ plainC y = true := fun h => by cases hx : plainC x <;> rw [hx] at h <;> simp_all
    have hpl : ro = none ∨ (plainC x = true ∧ plainC y = true) := hro.imp id (fun h => hpx (b := true) h)
    refine wpIn_seq (wpIn_mono (ihx ro _ _ _ _ e a w (hpl.imp id And.left) (fun d hd => hN d (by simp [hd])) hs hf h) fun ex a' w' hq => ?_)
    have hl : ∀ n ∈ written x, n ∈ written x ++ written y := fun n hn => by simp [hn]
    have hr : ∀ n ∈ written y, n ∈ written x ++ written y := fun n hn => by simp [hn]
    cases ex with
    | normal =>
      obtain ⟨e', hf', hso, hd, hk⟩ := hq
      refine wpIn_mono (ihy ro _ _ _ _ e' a' w' (hpl.imp id And.right) (fun d hd => hN d (by simp [hd])) (by rw [hso.1, hs]) hf' hk) fun ex2 a2 w2 hq2 => ?_
      cases ex2 with
      | normal => obtain ⟨e2, hf2, hso2, hd2, hk2⟩ := hq2; exact ⟨e2, hf2, (hso.mono hl).trans (hso2.mono hr), fun h => (hd2 (hpx (b := true) h).2).trans (hd (hpx (b := true) h).1), hk2⟩
      | exit i => obtain ⟨e2, hf2, hso2, hd2, hk2⟩ := hq2; exact ⟨e2, hf2, (hso.mono hl).trans (hso2.mono hr), fun h => (hd2 (hpx (b := true) h).2).trans (hd (hpx (b := true) h).1), hk2⟩
      | ret => obtain ⟨e2, hf2, hso2, hd2, hk2⟩ := hq2; exact ⟨e2, hf2, (hso.mono hl).trans (hso2.mono hr), fun h => (hd2 (hpx (b := true) h).2).trans (hd (hpx (b := true) h).1), hk2⟩
      | panic ch => exact hq2
      | goto l => exact hq2
      | outgrown => exact hq2
    | exit i => obtain ⟨e2, hf2, hso2, hd2, hk2⟩ := hq; exact ⟨e2, hf2, hso2.mono hl, fun h => hd2 (hpx (b := true) h).1, hk2⟩
    | ret => obtain ⟨e2, hf2, hso2, hd2, hk2⟩ := hq; exact ⟨e2, hf2, hso2.mono hl, fun h => hd2 (hpx (b := true) h).1, hk2⟩
    | panic ch => exact hq
    | goto l => exact hq
    | outgrown => exact hq
  | cond c x y ihx ihy =>
    intro ro kn kx kr kp e a w hro hN hs hf h
    simp only [vc] at h
    simp only [written] at hN ⊢
    have hl : ∀ n ∈ written x, n ∈ written x ++ written y := fun n hn => by simp [hn]
    have hr : ∀ n ∈ written y, n ∈ written x ++ written y := fun n hn => by simp [hn]
    split at h
    · rename_i t ht
      have hev : a.eval c = .bool t := by
        cases c with
        | tmp n => have := hf n _ ht; simp [Act.eval, this]
        | const v => simp [ev] at ht; simp [Act.eval, ht]
        | global g => simp [ev] at ht
        | func f => simp [ev] at ht
      have hpx : (match plainC x with | true => plainC y | false => false) = true → plainC x = true ∧ plainC y = true := fun h => by cases hx : plainC x <;> rw [hx] at h <;> simp_all
      have hpl : ro = none ∨ (plainC x = true ∧ plainC y = true) := hro.imp id (fun h => hpx h)
      have up : ∀ {l : List Nat} {pb : Bool}, (∀ n ∈ l, n ∈ written x ++ written y) → (plainC (.cond c x y) = true → pb = true) → ∀ ex a' w', QOf l pb a.defers a kn kx kr kp ex a' w' → QOf (written x ++ written y) (plainC (.cond c x y)) a.defers a kn kx kr kp ex a' w' := by
        intro l pb hl hpb ex a' w' hq
        cases ex with
        | normal => obtain ⟨e2, hf2, hso2, hd2, hk2⟩ := hq; exact ⟨e2, hf2, hso2.mono hl, fun h => hd2 (hpb h), hk2⟩
        | exit i => obtain ⟨e2, hf2, hso2, hd2, hk2⟩ := hq; exact ⟨e2, hf2, hso2.mono hl, fun h => hd2 (hpb h), hk2⟩
        | ret => obtain ⟨e2, hf2, hso2, hd2, hk2⟩ := hq; exact ⟨e2, hf2, hso2.mono hl, fun h => hd2 (hpb h), hk2⟩
        | panic ch => exact hq
        | goto l => exact hq
        | outgrown => exact hq
      cases t with
      | true => exact wpIn_cond_true hev (wpIn_mono (ihx ro _ _ _ _ e a w (hpl.imp id And.left) (fun d hd => hN d (by simp [hd])) hs hf h) (up hl fun h => (hpx h).1))
      | false => exact wpIn_cond_false hev (wpIn_mono (ihy ro _ _ _ _ e a w (hpl.imp id And.right) (fun d hd => hN d (by simp [hd])) hs hf h) (up hr fun h => (hpx h).2))
    · exact h.elim
  | block id c ih =>
    intro ro kn kx kr kp e a w hro hN hs hf h
    simp only [vc] at h
    simp only [written] at hN ⊢
    refine wpIn_block (wpIn_mono (ih ro _ _ _ _ e a w hro hN hs hf h) fun ex a' w' hq => ?_)
    cases ex with
    | normal => exact hq
    | exit i =>
      obtain ⟨e2, hf2, hso2, hd2, hk2⟩ := hq
      simp only [Exit.inBlock]
      by_cases hi : i = id
      · subst hi
        rw [if_pos rfl]
        rw [Nat.beq_refl] at hk2
        exact ⟨e2, hf2, hso2, hd2, hk2⟩
      · rw [if_neg hi]
        have : Nat.beq i id = false := by
          cases hb : Nat.beq i id with
          | false => rfl
          | true => exact absurd (Nat.eq_of_beq_eq_true hb) hi
        rw [this] at hk2
        exact ⟨e2, hf2, hso2, hd2, hk2⟩
    | ret => exact hq
    | panic ch => exact hq
    | goto l => exact hq
    | outgrown => exact hq
  | loop c ih =>
    intro ro kn kx kr kp e a w hro hN hs hf h
    simp only [vc] at h
    simp only [written] at hN ⊢
    split at h
    · exact h.elim
    rename_i hpc
    split at h
    · rename_i s0 hs0
      obtain ⟨I, μ, hI0, hround⟩ := h
      obtain ⟨hlen0, hget0⟩ := getAll_fits hf _ _ hs0
      generalize hLdef : live e (written c) = L at *
      let getS : Act → List Value := fun a => L.map fun n => a.tmps.getD n undef
      have getS_of : ∀ (a' : Act) (s : List Value), s.length = L.length → (∀ (j n : Nat), L[j]? = some n → a'.tmps[n]? = some (s.getD j undef)) → s = getS a' := by
        intro a' s hl hg
        apply List.ext_getElem?
        intro j
        rcases Nat.lt_or_ge j L.length with hj | hj
        · have h1 := hg j L[j] (List.getElem?_eq_getElem hj)
          have hj' : j < s.length := by omega
          simp only [getS, List.getElem?_map, List.getElem?_eq_getElem hj, List.getElem?_eq_getElem hj', Option.map_some]
          simp [hj'] at h1
          simp [h1]
        · rw [List.getElem?_eq_none (by omega), List.getElem?_eq_none (by simp [getS]; omega)]
      refine wpIn_loop (fun a' w' => I (getS a') w' ∧ (∀ n ∈ L, n < a'.tmps.size) ∧ SameOff (written c) a.tmps a'.tmps ∧ a'.defers = a.defers) (fun a' w' => μ (getS a') w') ?_ ?_
      · refine ⟨by rw [← getS_of a s0 hlen0 hget0]; exact hI0, fun n hn => ?_, SameOff.refl _ _, rfl⟩
        obtain ⟨j, hj⟩ := List.getElem?_of_mem hn
        have := hget0 j n hj
        exact (Array.getElem?_eq_some_iff.1 this).1
      · rintro a' w' ⟨hI, hLs, hso, hd⟩
        have hb := hround _ _ hI
        have hgetS : ∀ j n, L[j]? = some n → a'.tmps[n]? = some ((getS a').getD (0 + j) undef) := by
          intro j n hj
          have hn := hLs n (List.mem_of_getElem? hj)
          simp [getS, hj, hn]
        obtain ⟨acc, hfa, hvc⟩ := asAll_out L 0 (getS a') [] (fun n v hn => by cases hn) hgetS hb
        have hfb : (e.drop (written c)).fits a'.tmps := by
          intro n v hn
          rw [get_drop] at hn
          split at hn
          · cases hn
          · rename_i hmb
            rw [hso.2 n (by simpa using hmb)]
            exact hf n v hn
        rw [← hd] at hvc
        refine wpIn_mono (ih ro _ _ _ _ _ a' w' (.inr hpc) hN (by rw [hso.1, hs]) (fits_append hfa hfb) hvc) fun ex a2 w2 hq => ?_
        cases ex with
        | normal =>
          obtain ⟨e2, hf2, hso2, hd2, hk2⟩ := hq
          split at hk2
          · rename_i s' hs'
            obtain ⟨hlen, hget⟩ := getAll_fits hf2 _ _ hs'
            have hse := getS_of a2 s' hlen hget
            refine ⟨⟨by rw [← hse]; exact hk2.1, fun n hn => ?_, hso.trans hso2, (hd2 hpc).trans hd⟩, by rw [← hse]; exact hk2.2⟩
            rw [hso2.1]; exact hLs n hn
          · exact hk2.elim
        | exit i => obtain ⟨e2, hf2, hso2, hd2, hk2⟩ := hq; exact ⟨e2, hf2, hso.trans hso2, fun _ => (hd2 hpc).trans hd, hk2⟩
        | ret => obtain ⟨e2, hf2, hso2, hd2, hk2⟩ := hq; exact ⟨e2, hf2, hso.trans hso2, fun _ => (hd2 hpc).trans hd, hk2⟩
        | panic ch => exact hq
        | goto l => exact hq
        | outgrown => exact hq
    · exact h.elim
  | rangeFunc g ps x y ihx ihy =>
    intro ro kn kx kr kp e a w hro hN hs hf h
    rcases hro with rfl | hro
    · exact range_sound (fun ro => ihx (some ro)) (fun ro => ihy (some ro)) hN hs hf h
    · cases hro
  | exit id =>
    intro ro kn kx kr kp e a w hro hN hs hf h
    exact wpIn_exit ⟨e, hf, SameOff.refl _ _, fun _ => rfl, h⟩
  | scope c ih =>
    intro ro kn kx kr kp e a w hro hN hs hf h
    simp only [vc] at h
    simp only [written] at hN ⊢
    refine wpIn_scope_straight (wpIn_mono (ih ro _ _ _ _ e a w hro hN hs hf h) fun ex a' w' hq => ?_)
    cases ex with
    | goto l => exact hq
    | normal => exact hq
    | exit i => exact hq
    | ret => exact hq
    | panic ch => exact hq
    | outgrown => exact hq
  | label l =>
    intro ro kn kx kr kp e a w hro hN hs hf h
    exact wpIn_label ⟨e, hf, SameOff.refl _ _, fun _ => rfl, h⟩
  | goto l => intro ro kn kx kr kp e a w hro hN hs hf h; exact h.elim
  | ret =>
    intro ro kn kx kr kp e a w hro hN hs hf h
    exact wpIn_ret ⟨e, hf, SameOff.refl _ _, fun _ => rfl, h⟩
  | refuse y => intro ro kn kx kr kp e a w hro hN hs hf h; exact h.elim
theorem run_loadVar_row {P : Program} {t : TypeId} {d : TypeDesc} {w : World} {a : Addr} {cs : List Value} (ht : P.underlying t = some d) (hag : aggSize P t = some cs.length) (hrow : Row w a cs) :
    (loadVar t a).run P w = .ok (.agg cs.toArray) w := by
  have h1 := run_loadCells (P := P) hrow
  have hc : P.cellsOf t = cs.length := by
    unfold aggSize at hag
    split at hag <;> first | exact Option.some.inj hag | cases hag
  unfold loadVar
  simp only [Sem.run_bind, run_isAgg ht, Result.andThen_ok, hag, Option.isSome_some, if_true, run_sizeOf' ht, hc, h1, Sem.run_pure]
theorem run_loadVar_one {P : Program} {t : TypeId} {d : TypeDesc} {w : World} {a : Addr} {u : Value} (ht : P.underlying t = some d) (hag : aggSize P t = none) (hu : w.cell? a = some u) :
    (loadVar t a).run P w = .ok u w := by
  unfold loadVar
  simp only [Sem.run_bind, run_isAgg ht, Result.andThen_ok, hag]
  simp [hu]
def resRead (tmps : Array Value) : ResultVar → Sem Value
  | .tmp t => pure (tmps.getD t undef)
  | .cell a t => do loadVar t (← asAddr (tmps.getD a undef))
theorem resL_run {P : Program} {e : Env} {w : World} {k : List Value → Prop} {a : Array Value} (hf : e.fits a) : ∀ (l : List ResultVar) (acc : List Value), resL P e w k l acc →
    ∃ vs, (l.mapM (resRead a)).run P w = .ok vs w ∧ k (acc ++ vs)
  | [], acc, h => ⟨[], rfl, by simpa [resL] using h⟩
  | .tmp t :: r, acc, h => by
    simp only [resL] at h
    split at h
    · rename_i v hv
      obtain ⟨vs, hr, hk⟩ := resL_run hf r _ h
      have := hf t v hv
      refine ⟨v :: vs, ?_, by simpa using hk⟩
      rw [List.mapM_cons]
      simp only [Sem.run_bind, resRead]
      have hg : a.getD t undef = v := by simp [this]
      rw [hg]
      simp only [Sem.run_pure, Result.andThen_ok, hr]
    · exact h.elim
  | .cell x t :: r, acc, h => by
    simp only [resL] at h
    split at h
    · rename_i p hp
      have hx := hf x _ hp
      have hg : a.getD x undef = .pointer (some p) := by simp [hx]
      have go : ∀ u, (loadVar t p).run P w = .ok u w → resL P e w k r (acc ++ [u]) → ∃ vs, ((ResultVar.cell x t :: r).mapM (resRead a)).run P w = .ok vs w ∧ k (acc ++ vs) := by
        intro u hu h
        obtain ⟨vs, hr, hk⟩ := resL_run hf r _ h
        refine ⟨u :: vs, ?_, by simpa using hk⟩
        rw [List.mapM_cons]
        simp only [Sem.run_bind, resRead]
        rw [hg]
        simp only [asAddr, Sem.run_pure, Result.andThen_ok, hu, hr]
      split at h
      · rename_i d ht
        obtain ⟨cs, hlen, hrow, h⟩ := h
        exact go _ (run_loadVar_row ht (by simp [aggSize, ht, hlen]) hrow) h
      · rename_i n el ht
        obtain ⟨cs, hlen, hrow, h⟩ := h
        exact go _ (run_loadVar_row ht (by simp [aggSize, ht, hlen]) hrow) h
      · rename_i d hn1 hn2 ht
        obtain ⟨u, hu, h⟩ := h
        have hag : aggSize P t = none := by
          unfold aggSize
          rw [ht]
          split
          · rename_i heq; exact absurd (Option.some.inj heq) (hn1 _)
          · rename_i heq; exact absurd (Option.some.inj heq) (hn2 _ _)
          · rfl
        exact go _ (run_loadVar_one ht hag hu) h
      · exact h.elim
    · exact h.elim
theorem run_results {P : Program} {fn : Func} {tmps : Array Value} {vs : List Value} {w : World} (h : (fn.results.toList.mapM (resRead tmps)).run P w = .ok vs w) : (results fn tmps).run P w = .ok (tup1 vs) w := by
  have e0 : results fn tmps = (do let vs ← fn.results.mapM (resRead tmps); pure (if h : vs.size = 1 then vs[0] else .tuple vs)) := by
    unfold results
    congr 2
  have e : fn.results.mapM (resRead tmps) = List.toArray <$> fn.results.toList.mapM (resRead tmps) := Array.mapM_eq_mapM_toList
  rw [e0, Sem.run_bind, e, Sem.run_map, h]
  simp only [Result.andThen_ok, Sem.run_pure]
  congr 1
  match vs with
  | [] => rfl
  | [v] => rfl
  | _ :: _ :: _ => rfl
theorem argEnv_fits : ∀ (args : List Value) (i : Nat) (a : Array Value), (∀ j v, args[j]? = some v → a[i + j]? = some v) → (argEnv i args).fits a
  | [], _, _, _ => fun n v hn => by cases hn
  | x :: r, i, a, h => by
    intro n v hn
    simp only [argEnv, get_cons] at hn
    split at hn
    · rename_i he; subst he; cases hn; simpa using h 0 x rfl
    · exact argEnv_fits r (i + 1) a (fun j u hj => by have := h (j + 1) u (by simpa using hj); rwa [show i + 1 + j = i + (j + 1) by omega]) n v hn
def okFn (fn : Func) (n : Nat) : Bool := match fn.body with | some c => okCode fn.ntmps c && Nat.ble n fn.ntmps | none => false
theorem vcFn_sound {P : Program} {plan : Plan} (hm : P.follows .mixedOrders = true) {f : FuncId} {fn : Func} {args : List Value} {w : World} {Q : Value → World → Prop} {kp : List PanicEntry → World → Prop}
    (hfn : P.funcs[f]? = some fn) (hok : okFn fn args.length = true) (h : vcFn P plan fn args w Q kp) : Call P f args.toArray w Q kp := by
  unfold vcFn at h
  unfold okFn at hok
  cases hb : fn.body with
  | none => rw [hb] at h; exact h.elim
  | some c =>
    rw [hb] at h hok
    simp only at h
    simp only [Bool.and_eq_true] at hok
    obtain ⟨hc, hn⟩ := hok
    have hn' : args.length ≤ fn.ntmps := Nat.le_of_ble_eq_true hn
    unfold Call
    refine (callsIn_wide (n := 0)).1 (callsIn_of_wp_marks hfn hb trivial ?_ rfl)
    have hsz : (args.toArray ++ Array.replicate (fn.ntmps - args.toArray.size) undef).size = fn.ntmps := by simp; omega
    have hfit : (argEnv 0 args).fits (args.toArray ++ Array.replicate (fn.ntmps - args.toArray.size) undef) := by
      refine argEnv_fits args 0 _ fun j v hj => ?_
      have hlt : j < args.length := (List.getElem?_eq_some_iff.1 hj).1
      rw [Nat.zero_add, Array.getElem?_append_left (by simpa using hlt)]
      simpa using hj
    have := vc_sound (plan := plan) hm c none _ _ _ _ (argEnv 0 args) { tmps := args.toArray ++ Array.replicate (fn.ntmps - args.toArray.size) undef, defers := [] } w (.inl rfl) (fun d hd => dstBelow_spec hc d hd) hsz hfit h
    have hend : ∀ (e : Env) (tmps : Array Value) (ds : List Deferred) (w' : World), e.fits tmps → endDs ds w' (fun w => resL P e w (fun l => Q (tup1 l) w) fn.results.toList []) →
        LeavesInM Fence.wide 0 P fn tmps (fun e w'' => match e with | .returned v => Q v w'' | .panicked ch => kp ch w'' | .outgrown => False) ds .returning w' := by
      intro e tmps ds
      induction ds with
      | nil =>
        intro w' hf hk
        obtain ⟨vs, hr, hk⟩ := resL_run hf _ _ hk
        exact ⟨_, run_results hr, by simpa using hk⟩
      | cons d r ih =>
        intro w' hf hk
        simp only [endDs] at hk
        split at hk
        · rename_i D hD
          exact ⟨by simp, .inl ⟨D, _, hD, run_takeDeferred hk.1, ih _ hf hk.2⟩⟩
        · exact hk.elim
    refine wpIn_mono this fun ex a' w' hq => ?_
    cases ex with
    | normal => obtain ⟨e, hf, hso, hd, hk⟩ := hq; exact hend e _ _ _ hf hk
    | ret => obtain ⟨e, hf, hso, hd, hk⟩ := hq; exact hend e _ _ _ hf hk
    | exit i => obtain ⟨e, hf, hso, hd, hk⟩ := hq; exact hk.elim
    | goto l => exact hq.elim
    | panic ch =>
      show LeavesInM Fence.wide 0 P fn a'.tmps _ a'.defers (.panicking ch) w'
      rw [hq.1]
      exact hq.2
    | outgrown => exact hq.elim
theorem Call.fn {P : Program} {f : FuncId} {args : Array Value} {w : World} {Q : Value → World → Prop} (h : Call P f args w Q (fun _ _ => False)) : Gives P f args w Q :=
  Calls.mono h fun e w' he => by
    cases e with
    | returned v => exact ⟨v, rfl, he⟩
    | panicked ch => exact he.elim
    | outgrown => exact he.elim
theorem fn_of_vc {P : Program} {plan : Plan} (hm : P.follows .mixedOrders = true) {f : FuncId} {fn : Func} {args : List Value} {w : World} {Q : Value → World → Prop}
    (hfn : P.funcs[f]? = some fn) (hok : okFn fn args.length = true) (h : vcFn P plan fn args w Q (fun _ _ => False)) : Gives P f args.toArray w Q := (vcFn_sound hm hfn hok h).fn
end Go.Vc
namespace Go.Proofs.YtngecegnlhmnlaaGreatDoor.Fs
open Go Go.RowKit Go.Vc
set_option linter.unusedVariables false
theorem mixed : Tryz.prog.follows .mixedOrders = true := by kernel_rfl
def F140 (g0 : Array Value) (Q : Value → World → Prop) (kp : List PanicEntry → World → Prop) (W : World) : Prop :=
  NewA g0 120 W fun q1 W_1 =>
  NewA #[.int .u16 0, .int .u16 0, .int .u16 0, .int .u16 0, .int .u16 0, .int .u16 0, .int .u16 0, .int .u16 0] 168 W_1 fun q2 W_2 =>
  NewA #[.int .u16 0, .int .u16 0, .int .u16 0, .int .u16 0, .int .u16 0, .int .u16 0, .int .u16 0, .int .u16 0] 168 W_2 fun q3 W_3 =>
  Lp (fun s W_4 k =>
  AsI .i64 (s.getD 0 undef) fun x5 =>
  If (decide ((x5 : Int) < 8)) (LdNC W_4 q1 2 fun l9 =>
  CallK Tryz.prog 85 #[.agg l9.toArray, .int .i64 (IntKind.i64.wrap (16 * (IntKind.i64.wrap (7 - x5))))] W_4 kp fun u13 W_5 =>
  AsG u13 fun g14 =>
  Fld g14 1 fun u14 =>
  AsI .u64 u14 fun x14 =>
  IdxA q3 8 x5 1 fun q16 =>
  StV 1 W_5 q16 (.int .u16 (IntKind.u16.wrap x14)) fun W_6 =>
  k [.int .i64 (IntKind.i64.wrap (x5 + 1))] W_6) (LdNC W_4 q3 8 fun l18 =>
  StV 8 W_4 q2 (.agg l18.toArray) fun W_7 =>
  LdNC W_7 q2 8 fun l2 =>
  Q (.agg l2.toArray) W_7)) [.int .i64 0] W_3
theorem F140_eq (g0 : Array Value) (Q : Value → World → Prop) (kp : List PanicEntry → World → Prop) (W : World) : vcFn Tryz.prog [] Tryz.f140 [.agg g0] W Q kp = F140 g0 Q kp W := by kernel_rfl
theorem F140_ok : okFn Tryz.f140 1 = true := by kernel_rfl
theorem F140_fn {g0 : Array Value} {Q : Value → World → Prop} {W : World} (h : F140 g0 Q (fun _ _ => False) W) : Gives Tryz.prog 140 #[.agg g0] W Q := fn_of_vc (plan := []) mixed Tryz.func140 F140_ok (by rw [F140_eq]; exact h)
def F141 (g0 : Array Value) (Q : Value → World → Prop) (kp : List PanicEntry → World → Prop) (W : World) : Prop :=
  NewA g0 168 W fun q1 W_1 =>
  Lp (fun s W_2 k =>
  AsI .i64 (s.getD 0 undef) fun x4 =>
  AsI .i64 (s.getD 1 undef) fun x5 =>
  AsI .i64 (s.getD 2 undef) fun x8 =>
  If (decide ((x8 : Int) < 8)) (Lp (fun s_1 W_3 k_1 =>
  AsI .i64 (s_1.getD 0 undef) fun x7 =>
  Join (fun (b22 : Bool) (W_4 : World) =>
  If b22 (k_1 [.int .i64 (IntKind.i64.wrap (x7 + 1))] W_4) (Join (fun (x4_1 : Int) (x5_1 : Int) (W_5 : World) =>
  k [.int .i64 x4_1, .int .i64 x5_1, .int .i64 (IntKind.i64.wrap (x8 + 1))] W_5) fun (J_1 : Int → Int → World → Prop) =>
  If (decide ((x7 : Int) > x5)) (J_1 x8 x7 W_4) (J_1 x4 x5 W_4))) fun (J : Bool → World → Prop) =>
  If (decide (((IntKind.i64.wrap (x8 + x7)) : Int) < 8)) (IdxA q1 8 (IntKind.i64.wrap (x8 + x7)) 1 fun q19 =>
  Ld1 W_3 q19 fun u20 =>
  AsI .u16 u20 fun x20 =>
  J ((x20 : Int) == 0) W_3) (J false W_3)) [.int .i64 0] W_2) (If (decide ((x5 : Int) < 2)) (Q (.tuple #[.int .i64 0, .int .i64 0]) W_2) (Q (.tuple #[.int .i64 x4, .int .i64 x5]) W_2))) [.int .i64 0, .int .i64 0, .int .i64 0] W_1
theorem F141_eq (g0 : Array Value) (Q : Value → World → Prop) (kp : List PanicEntry → World → Prop) (W : World) : vcFn Tryz.prog [] Tryz.f141 [.agg g0] W Q kp = F141 g0 Q kp W := by kernel_rfl
theorem F141_ok : okFn Tryz.f141 1 = true := by kernel_rfl
theorem F141_fn {g0 : Array Value} {Q : Value → World → Prop} {W : World} (h : F141 g0 Q (fun _ _ => False) W) : Gives Tryz.prog 141 #[.agg g0] W Q := fn_of_vc (plan := []) mixed Tryz.func141 F141_ok (by rw [F141_eq]; exact h)
def F146 (g0 : Array Value) (Q : Value → World → Prop) (kp : List PanicEntry → World → Prop) (W : World) : Prop :=
  NewA g0 168 W fun q1 W_1 =>
  Lp (fun s W_2 k =>
  AsI .i64 (s.getD 0 undef) fun x2 =>
  AsI .i64 (s.getD 1 undef) fun x3 =>
  AsI .i64 (s.getD 2 undef) fun x4 =>
  If (decide ((x4 : Int) > 1)) (Lp (fun s_1 W_3 k_1 =>
  AsI .i64 (s_1.getD 0 undef) fun x2_1 =>
  AsI .i64 (s_1.getD 1 undef) fun x3_1 =>
  AsI .i64 (s_1.getD 2 undef) fun x5 =>
  If (decide ((x5 : Int) < 8)) (LdNC W_3 q1 8 fun l14 =>
  CallK Tryz.prog 189 #[.agg l14.toArray, .int .i64 x5, .int .i64 x4] W_3 kp fun u17 W_4 =>
  AsB u17 fun b17 =>
  If b17 (Q (.tuple #[.int .i64 x5, .int .i64 x4]) W_4) (k_1 [.int .i64 x2_1, .int .i64 x3_1, .int .i64 (IntKind.i64.wrap (x5 + 1))] W_4)) (k [.int .i64 x2_1, .int .i64 x3_1, .int .i64 (IntKind.i64.wrap (x4 - 1))] W_3)) [.int .i64 x2, .int .i64 x3, .int .i64 0] W_2) (Q (.tuple #[.int .i64 0, .int .i64 0]) W_2)) [.int .i64 0, .int .i64 0, .int .i64 8] W_1
theorem F146_eq (g0 : Array Value) (Q : Value → World → Prop) (kp : List PanicEntry → World → Prop) (W : World) : vcFn Tryz.prog [] Tryz.f146 [.agg g0] W Q kp = F146 g0 Q kp W := by kernel_rfl
theorem F146_ok : okFn Tryz.f146 1 = true := by kernel_rfl
theorem F146_fn {g0 : Array Value} {Q : Value → World → Prop} {W : World} (h : F146 g0 Q (fun _ _ => False) W) : Gives Tryz.prog 146 #[.agg g0] W Q := fn_of_vc (plan := []) mixed Tryz.func146 F146_ok (by rw [F146_eq]; exact h)
def F145 (g0 : Array Value) (Q : Value → World → Prop) (kp : List PanicEntry → World → Prop) (W : World) : Prop :=
  NewA g0 126 W fun q1 W_1 =>
  NewA #[.int .u16 0, .int .u16 0, .int .u16 0, .int .u16 0, .int .u16 0, .int .u16 0, .int .u16 0, .int .u16 0] 168 W_1 fun q2 W_2 =>
  NewA #[.int .u16 0, .int .u16 0, .int .u16 0, .int .u16 0, .int .u16 0, .int .u16 0, .int .u16 0, .int .u16 0] 168 W_2 fun q3 W_3 =>
  Lp (fun s W_4 k =>
  AsI .i64 (s.getD 0 undef) fun x4 =>
  If (decide ((x4 : Int) < 4)) (Ld1 W_4 q1 fun u14 =>
  AsI .u64 u14 fun x14 =>
  Dv 65536 <|
  Ld1 W_4 (q1.add 1) fun u18 =>
  AsI .u64 u18 fun x18 =>
  Dv 65536 <|
  Any W_4 fun W_5 =>
  IdxA q3 8 (IntKind.i64.wrap (3 - x4)) 1 fun q21 =>
  StV 1 W_5 q21 (.int .u16 (IntKind.u16.wrap (x14.tmod 65536))) fun W_6 =>
  StL W_6 (q1.add 1) (.int .u64 x18) <|
  IdxA q3 8 (IntKind.i64.wrap (7 - x4)) 1 fun q22 =>
  StV 1 W_6 q22 (.int .u16 (IntKind.u16.wrap (x18.tmod 65536))) fun W_7 =>
  Ld1 W_7 q1 fun u24 =>
  AsI .u64 u24 fun x24 =>
  Dv 65536 <|
  Ld1 W_7 (q1.add 1) fun u27 =>
  AsI .u64 u27 fun x27 =>
  Dv 65536 <|
  StV 1 W_7 q1 (.int .u64 (IntKind.u64.wrap (x24.tdiv 65536))) fun W_8 =>
  StV 1 W_8 (q1.add 1) (.int .u64 (IntKind.u64.wrap (x27.tdiv 65536))) fun W_9 =>
  k [.int .i64 (IntKind.i64.wrap (x4 + 1))] W_9) (LdNC W_4 q3 8 fun l31 =>
  StV 8 W_4 q2 (.agg l31.toArray) fun W_10 =>
  LdNC W_10 q2 8 fun l2 =>
  Q (.agg l2.toArray) W_10)) [.int .i64 0] W_3
theorem F145_eq (g0 : Array Value) (Q : Value → World → Prop) (kp : List PanicEntry → World → Prop) (W : World) : vcFn Tryz.prog [] Tryz.f145 [.agg g0] W Q kp = F145 g0 Q kp W := by kernel_rfl
theorem F145_ok : okFn Tryz.f145 1 = true := by kernel_rfl
theorem F145_fn {g0 : Array Value} {Q : Value → World → Prop} {W : World} (h : F145 g0 Q (fun _ _ => False) W) : Gives Tryz.prog 145 #[.agg g0] W Q := fn_of_vc (plan := []) mixed Tryz.func145 F145_ok (by rw [F145_eq]; exact h)
def F176 (g0 : Array Value) (Q : Value → World → Prop) (kp : List PanicEntry → World → Prop) (W : World) : Prop :=
  NewA g0 168 W fun q1 W_1 =>
  NewA #[.int .u64 0, .int .u64 0] 120 W_1 fun q2 W_2 =>
  NewA #[.int .u64 0, .int .u64 0] 120 W_2 fun q3 W_3 =>
  LdNC W_3 q1 8 fun l6 =>
  Lp (fun s W_4 k =>
  AsI .i64 (s.getD 0 undef) fun x7 =>
  If (decide ((x7 : Int) < 8)) (IdxV 8 x7 fun j9 =>
  Fld l6.toArray (j9 * 1) fun u9 =>
  AsI .u16 u9 fun x9 =>
  LdNC W_4 q3 2 fun l10 =>
  CallK Tryz.prog 174 #[.agg l10.toArray, .int .i64 16] W_4 kp fun u11 W_5 =>
  CallK Tryz.prog 103 #[.int .u64 (IntKind.u64.wrap x9)] W_5 kp fun u14 W_6 =>
  CallK Tryz.prog 203 #[u11, u14] W_6 kp fun u15 W_7 =>
  StV 2 W_7 q3 u15 fun W_8 =>
  k [.int .i64 (IntKind.i64.wrap (x7 + 1))] W_8) (LdNC W_4 q3 2 fun l17 =>
  StV 2 W_4 q2 (.agg l17.toArray) fun W_9 =>
  LdNC W_9 q2 2 fun l2 =>
  Q (.agg l2.toArray) W_9)) [.int .i64 0] W_3
theorem F176_eq (g0 : Array Value) (Q : Value → World → Prop) (kp : List PanicEntry → World → Prop) (W : World) : vcFn Tryz.prog [] Tryz.f176 [.agg g0] W Q kp = F176 g0 Q kp W := by kernel_rfl
theorem F176_ok : okFn Tryz.f176 1 = true := by kernel_rfl
theorem F176_fn {g0 : Array Value} {Q : Value → World → Prop} {W : World} (h : F176 g0 Q (fun _ _ => False) W) : Gives Tryz.prog 176 #[.agg g0] W Q := fn_of_vc (plan := []) mixed Tryz.func176 F176_ok (by rw [F176_eq]; exact h)
def F86 (g0 : Array Value) (Q : Value → World → Prop) (kp : List PanicEntry → World → Prop) (W : World) : Prop :=
  NewA g0 120 W fun q1 W_1 =>
  LdNC W_1 q1 2 fun l6 =>
  CallK Tryz.prog 140 #[.agg l6.toArray] W_1 kp fun u7 W_2 =>
  NewA #[.int .u16 0, .int .u16 0, .int .u16 0, .int .u16 0, .int .u16 0, .int .u16 0, .int .u16 0, .int .u16 0] 168 W_2 fun q3 W_3 =>
  StV 8 W_3 q3 u7 fun W_4 =>
  LdNC W_4 q3 8 fun l9 =>
  CallK Tryz.prog 141 #[.agg l9.toArray] W_4 kp fun u10 W_5 =>
  AsT2 u10 fun u10a u10b =>
  AsI .i64 u10a fun x10a =>
  AsI .i64 u10b fun x10b =>
  If ((x10b : Int) == 0) (SlB 8 8 none none fun i15 j15 =>
  CallK Tryz.prog 142 #[.slice (some (if 8 = i15 then q3 else Addr.add q3 (i15 * 1))) (j15 - i15) (8 - i15)] W_5 kp fun u16 W_6 =>
  AsS u16 fun s16 =>
  Q (.string s16) W_6) (Any W_5 fun W_7 =>
  SlB 8 8 none (some x10a) fun i18 j18 =>
  SlB 8 8 (some (IntKind.i64.wrap (x10a + x10b))) none fun i24 j24 =>
  CallK Tryz.prog 142 #[.slice (some (if 8 = i18 then q3 else Addr.add q3 (i18 * 1))) (j18 - i18) (8 - i18)] W_7 kp fun u19 W_8 =>
  AsS u19 fun s19 =>
  Cat s19 (⟨#[58, 58]⟩) <|
  CallK Tryz.prog 142 #[.slice (some (if 8 = i24 then q3 else Addr.add q3 (i24 * 1))) (j24 - i24) (8 - i24)] W_8 kp fun u25 W_9 =>
  AsS u25 fun s25 =>
  Cat (s19 ++ (⟨#[58, 58]⟩)) s25 <|
  Q (.string ((s19 ++ (⟨#[58, 58]⟩)) ++ s25)) W_9)
theorem F86_eq (g0 : Array Value) (Q : Value → World → Prop) (kp : List PanicEntry → World → Prop) (W : World) : vcFn Tryz.prog [(5, [9999, 0, 1, 4, 5, 6, 7, 2, 3, 8, 9, 10])] Tryz.f86 [.agg g0] W Q kp = F86 g0 Q kp W := by kernel_rfl
theorem F86_ok : okFn Tryz.f86 1 = true := by kernel_rfl
theorem F86_fn {g0 : Array Value} {Q : Value → World → Prop} {W : World} (h : F86 g0 Q (fun _ _ => False) W) : Gives Tryz.prog 86 #[.agg g0] W Q := fn_of_vc (plan := [(5, [9999, 0, 1, 4, 5, 6, 7, 2, 3, 8, 9, 10])]) mixed Tryz.func86 F86_ok (by rw [F86_eq]; exact h)
def F126 (s0 : ByteArray) (Q : Value → World → Prop) (kp : List PanicEntry → World → Prop) (W : World) : Prop :=
  NewA #[.int .u64 0, .int .u64 0] 120 W fun q2 W_1 =>
  CallK Tryz.prog 156 #[.string s0, .string (⟨#[58, 58]⟩)] W_1 kp fun u15 W_2 =>
  AsT3 u15 fun u15a u15b u15c =>
  AsS u15a fun s15a =>
  AsS u15b fun s15b =>
  AsB u15c fun b15c =>
  CallK Tryz.prog 175 #[.string s15a, .bool (!b15c)] W_2 kp fun u23 W_3 =>
  AsT2 u23 fun u23a u23b =>
  AsL u23a fun a23a n23a c23a =>
  AsB u23b fun b23b =>
  CallK Tryz.prog 175 #[.string s15b, .bool true] W_3 kp fun u28 W_4 =>
  AsT2 u28 fun u28a u28b =>
  AsL u28a fun a28a n28a c28a =>
  AsB u28b fun b28b =>
  Join (fun (b41 : Bool) (W_5 : World) =>
  Join (fun (b48 : Bool) (W_6 : World) =>
  Join (fun (b56 : Bool) (W_7 : World) =>
  If b56 (BldC [.int .u64 0, .int .u64 0] [] fun cs57 =>
  StV 2 W_7 q2 (.agg cs57) fun W_8 =>
  LdNC W_8 q2 2 fun l2 =>
  Q (.tuple #[.agg l2.toArray, .int .i64 3]) W_8) (NewA #[.int .u16 0, .int .u16 0, .int .u16 0, .int .u16 0, .int .u16 0, .int .u16 0, .int .u16 0, .int .u16 0] 168 W_7 fun q12 W_9 =>
  SlB 8 8 none none fun i58 j58 =>
  RunW Tryz.prog (Builtin.copy_ #[173, 173] 3 #[.slice (some (if 8 = i58 then q12 else Addr.add q12 (i58 * 1))) (j58 - i58) (8 - i58), .slice a23a n23a c23a]) W_9 fun u60 W_10 =>
  AsI .i64 u60 fun x60 =>
  SlB 8 8 (some (IntKind.i64.wrap (8 - (n28a : Int)))) none fun i64 j64 =>
  RunW Tryz.prog (Builtin.copy_ #[173, 173] 3 #[.slice (some (if 8 = i64 then q12 else Addr.add q12 (i64 * 1))) (j64 - i64) (8 - i64), .slice a28a n28a c28a]) W_10 fun u66 W_11 =>
  AsI .i64 u66 fun x66 =>
  LdNC W_11 q12 8 fun l67 =>
  CallK Tryz.prog 176 #[.agg l67.toArray] W_11 kp fun u68 W_12 =>
  StV 2 W_12 q2 u68 fun W_13 =>
  LdNC W_13 q2 2 fun l2_1 =>
  Q (.tuple #[.agg l2_1.toArray, .int .i64 0]) W_13)) fun (J_2 : Bool → World → Prop) =>
  If b48 (J_2 true W_6) (Join (fun (b55 : Bool) (W_14 : World) =>
  J_2 b55 W_14) fun (J_3 : Bool → World → Prop) =>
  If (!b15c) (J_3 (((IntKind.i64.wrap ((n23a : Int) + (n28a : Int))) : Int) != 8) W_6) (J_3 false W_6))) fun (J_1 : Bool → World → Prop) =>
  If b41 (J_1 true W_5) (Join (fun (b47 : Bool) (W_15 : World) =>
  J_1 b47 W_15) fun (J_4 : Bool → World → Prop) =>
  If b15c (J_4 (decide (((IntKind.i64.wrap ((n23a : Int) + (n28a : Int))) : Int) ≥ 8)) W_5) (J_4 false W_5))) fun (J : Bool → World → Prop) =>
  If (!b23b) (J true W_4) (J (!b28b) W_4)
theorem F126_eq (s0 : ByteArray) (Q : Value → World → Prop) (kp : List PanicEntry → World → Prop) (W : World) : vcFn Tryz.prog [] Tryz.f126 [.string s0] W Q kp = F126 s0 Q kp W := by kernel_rfl
theorem F126_ok : okFn Tryz.f126 1 = true := by kernel_rfl
theorem F126_fn {s0 : ByteArray} {Q : Value → World → Prop} {W : World} (h : F126 s0 Q (fun _ _ => False) W) : Gives Tryz.prog 126 #[.string s0] W Q := fn_of_vc (plan := []) mixed Tryz.func126 F126_ok (by rw [F126_eq]; exact h)
def F113 (s0 : ByteArray) (Q : Value → World → Prop) (kp : List PanicEntry → World → Prop) (W : World) : Prop :=
  NewA #[.int .u64 0, .int .u64 0] 126 W fun q2 W_1 =>
  BldC [.int .u64 0, .int .u64 0] [] fun cs16 =>
  NewA #[.int .u64 0, .int .u64 0] 126 W_1 fun q4 W_2 =>
  StV 2 W_2 q4 (.agg cs16) fun W_3 =>
  NewA #[.int .u16 0, .int .u16 0, .int .u16 0, .int .u16 0, .int .u16 0, .int .u16 0, .int .u16 0, .int .u16 0] 168 W_3 fun q5 W_4 =>
  CallK Tryz.prog 165 #[.string s0] W_4 kp fun u18 W_5 =>
  AsI .i64 u18 fun x18 =>
  If (decide ((x18 : Int) < 0)) (CallK Tryz.prog 166 #[.string s0, .bool true] W_5 kp fun u23 W_6 =>
  AsT2 u23 fun u23a u23b =>
  AsL u23a fun a23a n23a c23a =>
  AsB u23b fun b23b =>
  Join (fun (b32 : Bool) (W_7 : World) =>
  If b32 (LdNC W_7 q4 2 fun l33 =>
  StV 2 W_7 q2 (.agg l33.toArray) fun W_8 =>
  LdNC W_8 q2 2 fun l2 =>
  Q (.tuple #[.agg l2.toArray, .bool false]) W_8) (Lp (fun s W_9 k =>
  AsI .i64 (s.getD 0 undef) fun x9 =>
  If (decide ((x9 : Int) < 8)) (IdxS a23a n23a x9 1 fun q41 =>
  Ld1 W_9 q41 fun u42 =>
  AsI .u16 u42 fun x42 =>
  IdxA q5 8 x9 1 fun q43 =>
  StV 1 W_9 q43 (.int .u16 x42) fun W_10 =>
  k [.int .i64 (IntKind.i64.wrap (x9 + 1))] W_10) (LdNC W_9 q5 8 fun l44 =>
  CallK Tryz.prog 167 #[.agg l44.toArray] W_9 kp fun u45 W_11 =>
  StV 2 W_11 q2 u45 fun W_12 =>
  LdNC W_12 q2 2 fun l2_1 =>
  Q (.tuple #[.agg l2_1.toArray, .bool true]) W_12)) [.int .i64 0] W_7)) fun (J : Bool → World → Prop) =>
  If (!b23b) (J true W_6) (J (((n23a : Int) : Int) != 8) W_6)) (SlB (ByteArray.size s0) (ByteArray.size s0) none (some x18) fun i49 j49 =>
  CallK Tryz.prog 166 #[.string (ByteArray.extract s0 i49 j49), .bool false] W_5 kp fun u50 W_13 =>
  AsT2 u50 fun u50a u50b =>
  AsL u50a fun a50a n50a c50a =>
  AsB u50b fun b50b =>
  SlB (ByteArray.size s0) (ByteArray.size s0) (some (IntKind.i64.wrap (x18 + 2))) none fun i57 j57 =>
  CallK Tryz.prog 166 #[.string (ByteArray.extract s0 i57 j57), .bool true] W_13 kp fun u58 W_14 =>
  AsT2 u58 fun u58a u58b =>
  AsL u58a fun a58a n58a c58a =>
  AsB u58b fun b58b =>
  Join (fun (b66 : Bool) (W_15 : World) =>
  Join (fun (b74 : Bool) (W_16 : World) =>
  If b74 (LdNC W_16 q4 2 fun l75 =>
  StV 2 W_16 q2 (.agg l75.toArray) fun W_17 =>
  LdNC W_17 q2 2 fun l2_2 =>
  Q (.tuple #[.agg l2_2.toArray, .bool false]) W_17) (Lp (fun s_1 W_18 k_1 =>
  AsI .i64 (s_1.getD 0 undef) fun x14 =>
  If (decide ((x14 : Int) < (n50a : Int))) (IdxS a50a n50a x14 1 fun q85 =>
  Ld1 W_18 q85 fun u86 =>
  AsI .u16 u86 fun x86 =>
  IdxA q5 8 x14 1 fun q87 =>
  StV 1 W_18 q87 (.int .u16 x86) fun W_19 =>
  k_1 [.int .i64 (IntKind.i64.wrap (x14 + 1))] W_19) (Lp (fun s_2 W_20 k_2 =>
  AsI .i64 (s_2.getD 0 undef) fun x15 =>
  If (decide ((x15 : Int) < (n58a : Int))) (IdxS a58a n58a x15 1 fun q101 =>
  Ld1 W_20 q101 fun u102 =>
  AsI .u16 u102 fun x102 =>
  IdxA q5 8 (IntKind.i64.wrap ((IntKind.i64.wrap (8 - (n58a : Int))) + x15)) 1 fun q103 =>
  StV 1 W_20 q103 (.int .u16 x102) fun W_21 =>
  k_2 [.int .i64 (IntKind.i64.wrap (x15 + 1))] W_21) (LdNC W_20 q5 8 fun l104 =>
  CallK Tryz.prog 167 #[.agg l104.toArray] W_20 kp fun u105 W_22 =>
  StV 2 W_22 q2 u105 fun W_23 =>
  LdNC W_23 q2 2 fun l2_3 =>
  Q (.tuple #[.agg l2_3.toArray, .bool true]) W_23)) [.int .i64 0] W_18)) [.int .i64 0] W_16)) fun (J_2 : Bool → World → Prop) =>
  If b66 (J_2 true W_15) (J_2 (decide (((IntKind.i64.wrap ((n50a : Int) + (n58a : Int))) : Int) > 7)) W_15)) fun (J_1 : Bool → World → Prop) =>
  If (!b50b) (J_1 true W_14) (J_1 (!b58b) W_14))
theorem F113_eq (s0 : ByteArray) (Q : Value → World → Prop) (kp : List PanicEntry → World → Prop) (W : World) : vcFn Tryz.prog [] Tryz.f113 [.string s0] W Q kp = F113 s0 Q kp W := by kernel_rfl
theorem F113_ok : okFn Tryz.f113 1 = true := by kernel_rfl
theorem F113_fn {s0 : ByteArray} {Q : Value → World → Prop} {W : World} (h : F113 s0 Q (fun _ _ => False) W) : Gives Tryz.prog 113 #[.string s0] W Q := fn_of_vc (plan := []) mixed Tryz.func113 F113_ok (by rw [F113_eq]; exact h)
def F85 (g0 : Array Value) (x1 : Int) (Q : Value → World → Prop) (kp : List PanicEntry → World → Prop) (W : World) : Prop :=
  NewA g0 120 W fun q2 W_1 =>
  NewA #[.int .u64 0, .int .u64 0] 120 W_1 fun q4 W_2 =>
  If (decide ((x1 : Int) < 1)) (LdNC W_2 q2 2 fun l8 =>
  StV 2 W_2 q4 (.agg l8.toArray) fun W_3 =>
  LdNC W_3 q4 2 fun l4 =>
  Q (.agg l4.toArray) W_3) (If (decide ((x1 : Int) ≥ 128)) (BldC [.int .u64 0, .int .u64 0] [] fun cs12 =>
  StV 2 W_2 q4 (.agg cs12) fun W_4 =>
  LdNC W_4 q4 2 fun l4_1 =>
  Q (.agg l4_1.toArray) W_4) (If (decide ((x1 : Int) ≥ 64)) (Ld1 W_2 q2 fun u17 =>
  AsI .u64 u17 fun x17 =>
  Shl (IntKind.i64.wrap (x1 - 64)) <|
  BldC [.int .u64 0, .int .u64 0] [(1, 1, .int .u64 (Int.fdiv x17 (2 ^ (min (Int.toNat (IntKind.i64.wrap (x1 - 64))) (IntKind.u64).bits))))] fun cs21 =>
  StV 2 W_2 q4 (.agg cs21) fun W_5 =>
  LdNC W_5 q4 2 fun l4_2 =>
  Q (.agg l4_2.toArray) W_5) (Ld1 W_2 q2 fun u23 =>
  AsI .u64 u23 fun x23 =>
  Shl x1 <|
  Ld1 W_2 (q2.add 1) fun u27 =>
  AsI .u64 u27 fun x27 =>
  Shl x1 <|
  Ld1 W_2 q2 fun u31 =>
  AsI .u64 u31 fun x31 =>
  Any W_2 fun W_6 =>
  Shl (IntKind.i64.wrap (64 - x1)) <|
  BldC [.int .u64 0, .int .u64 0] [(0, 1, .int .u64 (Int.fdiv x23 (2 ^ (min (Int.toNat x1) (IntKind.u64).bits)))), (1, 1, .int .u64 (IntKind.u64.wrap ((((BitVec.ofInt (IntKind.u64).bits (Int.fdiv x27 (2 ^ (min (Int.toNat x1) (IntKind.u64).bits)))) ||| (BitVec.ofInt (IntKind.u64).bits (IntKind.u64.wrap (x31 * 2 ^ (min (Int.toNat (IntKind.i64.wrap (64 - x1))) (IntKind.u64).bits))))).toNat : Int))))] fun cs36 =>
  StV 2 W_6 q4 (.agg cs36) fun W_7 =>
  LdNC W_7 q4 2 fun l4_3 =>
  Q (.agg l4_3.toArray) W_7)))
theorem F85_eq (g0 : Array Value) (x1 : Int) (Q : Value → World → Prop) (kp : List PanicEntry → World → Prop) (W : World) : vcFn Tryz.prog [] Tryz.f85 [.agg g0, .int .i64 x1] W Q kp = F85 g0 x1 Q kp W := by kernel_rfl
theorem F85_ok : okFn Tryz.f85 2 = true := by kernel_rfl
theorem F85_fn {g0 : Array Value} {x1 : Int} {Q : Value → World → Prop} {W : World} (h : F85 g0 x1 Q (fun _ _ => False) W) : Gives Tryz.prog 85 #[.agg g0, .int .i64 x1] W Q := fn_of_vc (plan := []) mixed Tryz.func85 F85_ok (by rw [F85_eq]; exact h)
def F189 (g0 : Array Value) (x1 : Int) (x2 : Int) (Q : Value → World → Prop) (kp : List PanicEntry → World → Prop) (W : World) : Prop :=
  NewA g0 168 W fun q3 W_1 =>
  Lp (fun s W_2 k =>
  AsB (s.getD 0 undef) fun b6 =>
  AsI .i64 (s.getD 1 undef) fun x7 =>
  If (decide ((x7 : Int) < (IntKind.i64.wrap (x1 + x2)))) (Join (fun (b23 : Bool) (W_3 : World) =>
  If b23 (Q (.bool false) W_3) (k [.bool b6, .int .i64 (IntKind.i64.wrap (x7 + 1))] W_3)) fun (J : Bool → World → Prop) =>
  If (decide ((x7 : Int) > 7)) (J true W_2) (IdxA q3 8 x7 1 fun q20 =>
  Ld1 W_2 q20 fun u21 =>
  AsI .u16 u21 fun x21 =>
  J ((x21 : Int) != 0) W_2)) (Q (.bool true) W_2)) [.bool false, .int .i64 x1] W_1
theorem F189_eq (g0 : Array Value) (x1 : Int) (x2 : Int) (Q : Value → World → Prop) (kp : List PanicEntry → World → Prop) (W : World) : vcFn Tryz.prog [] Tryz.f189 [.agg g0, .int .i64 x1, .int .i64 x2] W Q kp = F189 g0 x1 x2 Q kp W := by kernel_rfl
theorem F189_ok : okFn Tryz.f189 3 = true := by kernel_rfl
theorem F189_fn {g0 : Array Value} {x1 : Int} {x2 : Int} {Q : Value → World → Prop} {W : World} (h : F189 g0 x1 x2 Q (fun _ _ => False) W) : Gives Tryz.prog 189 #[.agg g0, .int .i64 x1, .int .i64 x2] W Q := fn_of_vc (plan := []) mixed Tryz.func189 F189_ok (by rw [F189_eq]; exact h)
def F103 (x0 : Int) (Q : Value → World → Prop) (kp : List PanicEntry → World → Prop) (W : World) : Prop :=
  NewA #[.int .u64 0, .int .u64 0] 120 W fun q2 W_1 =>
  BldC [.int .u64 0, .int .u64 0] [(1, 1, .int .u64 x0)] fun cs4 =>
  StV 2 W_1 q2 (.agg cs4) fun W_2 =>
  LdNC W_2 q2 2 fun l2 =>
  Q (.agg l2.toArray) W_2
theorem F103_eq (x0 : Int) (Q : Value → World → Prop) (kp : List PanicEntry → World → Prop) (W : World) : vcFn Tryz.prog [] Tryz.f103 [.int .u64 x0] W Q kp = F103 x0 Q kp W := by kernel_rfl
theorem F103_ok : okFn Tryz.f103 1 = true := by kernel_rfl
theorem F103_fn {x0 : Int} {Q : Value → World → Prop} {W : World} (h : F103 x0 Q (fun _ _ => False) W) : Gives Tryz.prog 103 #[.int .u64 x0] W Q := fn_of_vc (plan := []) mixed Tryz.func103 F103_ok (by rw [F103_eq]; exact h)
def F203 (g0 : Array Value) (g1 : Array Value) (Q : Value → World → Prop) (kp : List PanicEntry → World → Prop) (W : World) : Prop :=
  NewA g0 120 W fun q2 W_1 =>
  NewA g1 120 W_1 fun q3 W_2 =>
  NewA #[.int .u64 0, .int .u64 0] 120 W_2 fun q4 W_3 =>
  Ld1 W_3 q2 fun u6 =>
  AsI .u64 u6 fun x6 =>
  Ld1 W_3 q3 fun u8 =>
  AsI .u64 u8 fun x8 =>
  Ld1 W_3 (q2.add 1) fun u11 =>
  AsI .u64 u11 fun x11 =>
  Ld1 W_3 (q3.add 1) fun u13 =>
  AsI .u64 u13 fun x13 =>
  BldC [.int .u64 0, .int .u64 0] [(0, 1, .int .u64 (IntKind.u64.wrap ((((BitVec.ofInt (IntKind.u64).bits x6) ||| (BitVec.ofInt (IntKind.u64).bits x8)).toNat : Int)))), (1, 1, .int .u64 (IntKind.u64.wrap ((((BitVec.ofInt (IntKind.u64).bits x11) ||| (BitVec.ofInt (IntKind.u64).bits x13)).toNat : Int))))] fun cs15 =>
  StV 2 W_3 q4 (.agg cs15) fun W_4 =>
  LdNC W_4 q4 2 fun l4 =>
  Q (.agg l4.toArray) W_4
theorem F203_eq (g0 : Array Value) (g1 : Array Value) (Q : Value → World → Prop) (kp : List PanicEntry → World → Prop) (W : World) : vcFn Tryz.prog [] Tryz.f203 [.agg g0, .agg g1] W Q kp = F203 g0 g1 Q kp W := by kernel_rfl
theorem F203_ok : okFn Tryz.f203 2 = true := by kernel_rfl
theorem F203_fn {g0 : Array Value} {g1 : Array Value} {Q : Value → World → Prop} {W : World} (h : F203 g0 g1 Q (fun _ _ => False) W) : Gives Tryz.prog 203 #[.agg g0, .agg g1] W Q := fn_of_vc (plan := []) mixed Tryz.func203 F203_ok (by rw [F203_eq]; exact h)
def F174 (g0 : Array Value) (x1 : Int) (Q : Value → World → Prop) (kp : List PanicEntry → World → Prop) (W : World) : Prop :=
  NewA g0 120 W fun q2 W_1 =>
  NewA #[.int .u64 0, .int .u64 0] 120 W_1 fun q4 W_2 =>
  If (decide ((x1 : Int) < 1)) (LdNC W_2 q2 2 fun l8 =>
  StV 2 W_2 q4 (.agg l8.toArray) fun W_3 =>
  LdNC W_3 q4 2 fun l4 =>
  Q (.agg l4.toArray) W_3) (If (decide ((x1 : Int) ≥ 128)) (BldC [.int .u64 0, .int .u64 0] [] fun cs12 =>
  StV 2 W_2 q4 (.agg cs12) fun W_4 =>
  LdNC W_4 q4 2 fun l4_1 =>
  Q (.agg l4_1.toArray) W_4) (If (decide ((x1 : Int) ≥ 64)) (Ld1 W_2 (q2.add 1) fun u17 =>
  AsI .u64 u17 fun x17 =>
  Shl (IntKind.i64.wrap (x1 - 64)) <|
  BldC [.int .u64 0, .int .u64 0] [(0, 1, .int .u64 (IntKind.u64.wrap (x17 * 2 ^ (min (Int.toNat (IntKind.i64.wrap (x1 - 64))) (IntKind.u64).bits))))] fun cs21 =>
  StV 2 W_2 q4 (.agg cs21) fun W_5 =>
  LdNC W_5 q4 2 fun l4_2 =>
  Q (.agg l4_2.toArray) W_5) (Ld1 W_2 q2 fun u23 =>
  AsI .u64 u23 fun x23 =>
  Shl x1 <|
  Ld1 W_2 (q2.add 1) fun u27 =>
  AsI .u64 u27 fun x27 =>
  Shl (IntKind.i64.wrap (64 - x1)) <|
  Ld1 W_2 (q2.add 1) fun u33 =>
  AsI .u64 u33 fun x33 =>
  Any W_2 fun W_6 =>
  Shl x1 <|
  BldC [.int .u64 0, .int .u64 0] [(0, 1, .int .u64 (IntKind.u64.wrap ((((BitVec.ofInt (IntKind.u64).bits (IntKind.u64.wrap (x23 * 2 ^ (min (Int.toNat x1) (IntKind.u64).bits)))) ||| (BitVec.ofInt (IntKind.u64).bits (Int.fdiv x27 (2 ^ (min (Int.toNat (IntKind.i64.wrap (64 - x1))) (IntKind.u64).bits))))).toNat : Int)))), (1, 1, .int .u64 (IntKind.u64.wrap (x33 * 2 ^ (min (Int.toNat x1) (IntKind.u64).bits))))] fun cs36 =>
  StV 2 W_6 q4 (.agg cs36) fun W_7 =>
  LdNC W_7 q4 2 fun l4_3 =>
  Q (.agg l4_3.toArray) W_7)))
theorem F174_eq (g0 : Array Value) (x1 : Int) (Q : Value → World → Prop) (kp : List PanicEntry → World → Prop) (W : World) : vcFn Tryz.prog [] Tryz.f174 [.agg g0, .int .i64 x1] W Q kp = F174 g0 x1 Q kp W := by kernel_rfl
theorem F174_ok : okFn Tryz.f174 2 = true := by kernel_rfl
theorem F174_fn {g0 : Array Value} {x1 : Int} {Q : Value → World → Prop} {W : World} (h : F174 g0 x1 Q (fun _ _ => False) W) : Gives Tryz.prog 174 #[.agg g0, .int .i64 x1] W Q := fn_of_vc (plan := []) mixed Tryz.func174 F174_ok (by rw [F174_eq]; exact h)
def F142 (a0 : Option Addr) (n0 c0 : Nat) (Q : Value → World → Prop) (kp : List PanicEntry → World → Prop) (W : World) : Prop :=
  Lp (fun s W_1 k =>
  AsL (s.getD 0 undef) fun a3 n3 c3 =>
  AsI .i64 (s.getD 1 undef) fun x8 =>
  If (decide ((x8 : Int) < (n0 : Int))) (IdxS a0 n0 x8 1 fun q10 =>
  Ld1 W_1 q10 fun u11 =>
  AsI .u16 u11 fun x11 =>
  CallK Tryz.prog 187 #[.int .u64 (IntKind.u64.wrap x11), .int .i64 16] W_1 kp fun u15 W_2 =>
  AsS u15 fun s15 =>
  NewSC 1 (zeroRow 1 #[.string ByteArray.empty]) [(0, 1, .string s15)] 9 W_2 fun q16 W_3 =>
  RunW Tryz.prog (Builtin.append_ #[74, 74] 74 #[.slice a3 n3 c3, .slice (some q16) 1 1]) W_3 fun u17 W_4 =>
  AsL u17 fun a17 n17 c17 =>
  k [.slice a17 n17 c17, .int .i64 (IntKind.i64.wrap (x8 + 1))] W_4) (CallK Tryz.prog 55 #[.slice a3 n3 c3, .string (⟨#[58]⟩)] W_1 kp fun u20 W_5 =>
  AsS u20 fun s20 =>
  Q (.string s20) W_5)) [.slice none 0 0, .int .i64 0] W
theorem F142_eq (a0 : Option Addr) (n0 c0 : Nat) (Q : Value → World → Prop) (kp : List PanicEntry → World → Prop) (W : World) : vcFn Tryz.prog [] Tryz.f142 [.slice a0 n0 c0] W Q kp = F142 a0 n0 c0 Q kp W := by kernel_rfl
theorem F142_ok : okFn Tryz.f142 1 = true := by kernel_rfl
theorem F142_fn {a0 : Option Addr} {n0 c0 : Nat} {Q : Value → World → Prop} {W : World} (h : F142 a0 n0 c0 Q (fun _ _ => False) W) : Gives Tryz.prog 142 #[.slice a0 n0 c0] W Q := fn_of_vc (plan := []) mixed Tryz.func142 F142_ok (by rw [F142_eq]; exact h)
def F147 (x0 : Int) (Q : Value → World → Prop) (kp : List PanicEntry → World → Prop) (W : World) : Prop :=
  Lp (fun s W_1 k =>
  AsS (s.getD 0 undef) fun s3 =>
  AsI .u16 (s.getD 1 undef) fun x0_1 =>
  Join (fun (b9 : Bool) (W_2 : World) =>
  If b9 (Dv 16 <|
  Dv 16 <|
  SlB (ByteArray.size (⟨#[48, 49, 50, 51, 52, 53, 54, 55, 56, 57, 97, 98, 99, 100, 101, 102]⟩)) (ByteArray.size (⟨#[48, 49, 50, 51, 52, 53, 54, 55, 56, 57, 97, 98, 99, 100, 101, 102]⟩)) (some (x0_1.tmod 16)) (some (IntKind.u16.wrap ((x0_1.tmod 16) + 1))) fun i15 j15 =>
  Cat (ByteArray.extract (⟨#[48, 49, 50, 51, 52, 53, 54, 55, 56, 57, 97, 98, 99, 100, 101, 102]⟩) i15 j15) s3 <|
  Dv 16 <|
  k [.string ((ByteArray.extract (⟨#[48, 49, 50, 51, 52, 53, 54, 55, 56, 57, 97, 98, 99, 100, 101, 102]⟩) i15 j15) ++ s3), .int .u16 (IntKind.u16.wrap (x0_1.tdiv 16))] W_2) (Q (.string s3) W_2)) fun (J : Bool → World → Prop) =>
  If (decide ((x0_1 : Int) > 0)) (J true W_1) (J (ByteArray.toList s3 == ByteArray.toList (⟨#[]⟩)) W_1)) [.string (⟨#[]⟩), .int .u16 x0] W
theorem F147_eq (x0 : Int) (Q : Value → World → Prop) (kp : List PanicEntry → World → Prop) (W : World) : vcFn Tryz.prog [] Tryz.f147 [.int .u16 x0] W Q kp = F147 x0 Q kp W := by kernel_rfl
theorem F147_ok : okFn Tryz.f147 1 = true := by kernel_rfl
theorem F147_fn {x0 : Int} {Q : Value → World → Prop} {W : World} (h : F147 x0 Q (fun _ _ => False) W) : Gives Tryz.prog 147 #[.int .u16 x0] W Q := fn_of_vc (plan := []) mixed Tryz.func147 F147_ok (by rw [F147_eq]; exact h)
def F175 (s0 : ByteArray) (b1 : Bool) (Q : Value → World → Prop) (kp : List PanicEntry → World → Prop) (W : World) : Prop :=
  If (ByteArray.toList s0 == ByteArray.toList (⟨#[]⟩)) (Q (.tuple #[.slice none 0 0, .bool true]) W) (NewA #[.slice none 0 0] 173 W fun q6 W_1 =>
  CallK Tryz.prog 66 #[.string s0, .string (⟨#[58]⟩)] W_1 kp fun u14 W_2 =>
  AsL u14 fun a14 n14 c14 =>
  Lp (fun s W_3 k =>
  AsL (s.getD 0 undef) fun a4 n4 c4 =>
  AsB (s.getD 1 undef) fun b5 =>
  AsI .i64 (s.getD 2 undef) fun x18 =>
  If (decide ((x18 : Int) < (n14 : Int))) (IdxS a14 n14 x18 1 fun q21 =>
  Ld1 W_3 q21 fun u22 =>
  AsS u22 fun s22 =>
  Join (fun (b32 : Bool) (W_4 : World) =>
  YieldK Tryz.prog (callSem (.func (.func 201) #[] #[.pointer (some q6)]) #[.string s22, .bool b32]) W_4 kp fun u33 W_5 =>
  AsB u33 fun b33 =>
  If (!b33) (Q (.tuple #[.slice none 0 0, .bool false]) W_5) (k [.slice a4 n4 c4, .bool b5, .int .i64 (IntKind.i64.wrap (x18 + 1))] W_5)) fun (J : Bool → World → Prop) =>
  If b1 (J ((x18 : Int) == (IntKind.i64.wrap ((n14 : Int) - 1))) W_3) (J false W_3)) (Ld1 W_3 q6 fun u36 =>
  AsL u36 fun a36 n36 c36 =>
  Q (.tuple #[.slice a36 n36 c36, .bool true]) W_3)) [.slice none 0 0, .bool false, .int .i64 0] W_2)
theorem F175_eq (s0 : ByteArray) (b1 : Bool) (Q : Value → World → Prop) (kp : List PanicEntry → World → Prop) (W : World) : vcFn Tryz.prog [] Tryz.f175 [.string s0, .bool b1] W Q kp = F175 s0 b1 Q kp W := by kernel_rfl
theorem F175_ok : okFn Tryz.f175 2 = true := by kernel_rfl
theorem F175_fn {s0 : ByteArray} {b1 : Bool} {Q : Value → World → Prop} {W : World} (h : F175 s0 b1 Q (fun _ _ => False) W) : Gives Tryz.prog 175 #[.string s0, .bool b1] W Q := fn_of_vc (plan := []) mixed Tryz.func175 F175_ok (by rw [F175_eq]; exact h)
def F165 (s0 : ByteArray) (Q : Value → World → Prop) (kp : List PanicEntry → World → Prop) (W : World) : Prop :=
  Lp (fun s W_1 k =>
  AsI .i64 (s.getD 0 undef) fun x2 =>
  AsI .i64 (s.getD 1 undef) fun x3 =>
  If (decide (((IntKind.i64.wrap (x3 + 1)) : Int) < (ByteArray.size s0 : Int))) (IdxStr s0 x3 fun c13 =>
  Join (fun (b21 : Bool) (W_2 : World) =>
  If b21 (Q (.int .i64 x3) W_2) (k [.int .i64 x2, .int .i64 (IntKind.i64.wrap (x3 + 1))] W_2)) fun (J : Bool → World → Prop) =>
  If (((c13.toNat : Int) : Int) == 58) (IdxStr s0 (IntKind.i64.wrap (x3 + 1)) fun c19 =>
  J (((c19.toNat : Int) : Int) == 58) W_1) (J false W_1)) (Q (.int .i64 (-1)) W_1)) [.int .i64 0, .int .i64 0] W
theorem F165_eq (s0 : ByteArray) (Q : Value → World → Prop) (kp : List PanicEntry → World → Prop) (W : World) : vcFn Tryz.prog [] Tryz.f165 [.string s0] W Q kp = F165 s0 Q kp W := by kernel_rfl
theorem F165_ok : okFn Tryz.f165 1 = true := by kernel_rfl
theorem F165_fn {s0 : ByteArray} {Q : Value → World → Prop} {W : World} (h : F165 s0 Q (fun _ _ => False) W) : Gives Tryz.prog 165 #[.string s0] W Q := fn_of_vc (plan := []) mixed Tryz.func165 F165_ok (by rw [F165_eq]; exact h)
def F166 (s0 : ByteArray) (b1 : Bool) (Q : Value → World → Prop) (kp : List PanicEntry → World → Prop) (W : World) : Prop :=
  Lp (fun s W_1 k =>
  AsI .i64 (s.getD 0 undef) fun x7 =>
  AsL (s.getD 1 undef) fun a4 n4 c4 =>
  AsB (s.getD 2 undef) fun b5 =>
  AsL (s.getD 3 undef) fun a6 n6 c6 =>
  AsI .i64 (s.getD 4 undef) fun x8 =>
  Join (fun (b22 : Bool) (W_2 : World) =>
  If b22 (Join (fun (a4_1 : Option Addr) (n4_1 : Nat) (c4_1 : Nat) (b5_1 : Bool) (a6_1 : Option Addr) (n6_1 : Nat) (c6_1 : Nat) (x7_1 : Int) (W_3 : World) =>
  k [.int .i64 x7_1, .slice a4_1 n4_1 c4_1, .bool b5_1, .slice a6_1 n6_1 c6_1, .int .i64 (IntKind.i64.wrap (x8 + 1))] W_3) fun (J_1 : Option Addr → Nat → Nat → Bool → Option Addr → Nat → Nat → Int → World → Prop) =>
  Join (fun (b34 : Bool) (W_4 : World) =>
  If b34 (J_1 a4 n4 c4 b5 a6 n6 c6 x7 W_4) (SlB (ByteArray.size s0) (ByteArray.size s0) (some x7) (some x8) fun i38 j38 =>
  CallK Tryz.prog 111 #[.string (ByteArray.extract s0 i38 j38)] W_4 kp fun u43 W_5 =>
  AsT2 u43 fun u43a u43b =>
  AsI .u32 u43a fun x43a =>
  AsB u43b fun b43b =>
  Join (fun (b49 : Bool) (W_6 : World) =>
  Join (fun (b55 : Bool) (W_7 : World) =>
  If b55 (Dv 65536 <|
  Dv 65536 <|
  NewSC 2 (zeroRow 2 #[.int .u16 0]) [(0, 1, .int .u16 (IntKind.u16.wrap (IntKind.u32.wrap (x43a.tdiv 65536)))), (1, 1, .int .u16 (IntKind.u16.wrap (x43a.tmod 65536)))] 167 W_7 fun q63 W_8 =>
  RunW Tryz.prog (Builtin.append_ #[173, 173] 173 #[.slice a6 n6 c6, .slice (some q63) 2 2]) W_8 fun u64 W_9 =>
  AsL u64 fun a64 n64 c64 =>
  Q (.tuple #[.slice a64 n64 c64, .bool true]) W_9) (CallK Tryz.prog 196 #[.string (ByteArray.extract s0 i38 j38)] W_7 kp fun u67 W_10 =>
  AsT2 u67 fun u67a u67b =>
  AsI .u16 u67a fun x67a =>
  AsB u67b fun b67b =>
  If (!b67b) (Q (.tuple #[.slice none 0 0, .bool false]) W_10) (NewSC 1 (zeroRow 1 #[.int .u16 0]) [(0, 1, .int .u16 x67a)] 167 W_10 fun q74 W_11 =>
  RunW Tryz.prog (Builtin.append_ #[173, 173] 173 #[.slice a6 n6 c6, .slice (some q74) 1 1]) W_11 fun u75 W_12 =>
  AsL u75 fun a75 n75 c75 =>
  J_1 a4 n4 c4 b5 a75 n75 c75 (IntKind.i64.wrap (x8 + 1)) W_12))) fun (J_4 : Bool → World → Prop) =>
  If b49 (J_4 ((x8 : Int) == (ByteArray.size s0 : Int)) W_6) (J_4 false W_6)) fun (J_3 : Bool → World → Prop) =>
  If b43b (J_3 b1 W_5) (J_3 false W_5))) fun (J_2 : Bool → World → Prop) =>
  If (decide ((x8 : Int) < (ByteArray.size s0 : Int))) (IdxStr s0 x8 fun c32 =>
  J_2 (((c32.toNat : Int) : Int) != 58) W_2) (J_2 false W_2)) (Q (.tuple #[.slice a6 n6 c6, .bool true]) W_2)) fun (J : Bool → World → Prop) =>
  If (decide ((x8 : Int) ≤ (ByteArray.size s0 : Int))) (J (decide (((ByteArray.size s0 : Int) : Int) > 0)) W_1) (J false W_1)) [.int .i64 0, .slice none 0 0, .bool false, .slice none 0 0, .int .i64 0] W
theorem F166_eq (s0 : ByteArray) (b1 : Bool) (Q : Value → World → Prop) (kp : List PanicEntry → World → Prop) (W : World) : vcFn Tryz.prog [] Tryz.f166 [.string s0, .bool b1] W Q kp = F166 s0 b1 Q kp W := by kernel_rfl
theorem F166_ok : okFn Tryz.f166 2 = true := by kernel_rfl
theorem F166_fn {s0 : ByteArray} {b1 : Bool} {Q : Value → World → Prop} {W : World} (h : F166 s0 b1 Q (fun _ _ => False) W) : Gives Tryz.prog 166 #[.string s0, .bool b1] W Q := fn_of_vc (plan := []) mixed Tryz.func166 F166_ok (by rw [F166_eq]; exact h)
def F167 (g0 : Array Value) (Q : Value → World → Prop) (kp : List PanicEntry → World → Prop) (W : World) : Prop :=
  NewA g0 168 W fun q1 W_1 =>
  NewA #[.int .u64 0, .int .u64 0] 126 W_1 fun q2 W_2 =>
  BldC [.int .u64 0, .int .u64 0] [] fun cs5 =>
  NewA #[.int .u64 0, .int .u64 0] 126 W_2 fun q3 W_3 =>
  StV 2 W_3 q3 (.agg cs5) fun W_4 =>
  Lp (fun s W_5 k =>
  AsI .i64 (s.getD 0 undef) fun x4 =>
  If (decide ((x4 : Int) < 4)) (Ld1 W_5 q3 fun u11 =>
  AsI .u64 u11 fun x11 =>
  IdxA q1 8 x4 1 fun q14 =>
  Ld1 W_5 q14 fun u15 =>
  AsI .u16 u15 fun x15 =>
  Ld1 W_5 (q3.add 1) fun u19 =>
  AsI .u64 u19 fun x19 =>
  IdxA q1 8 (IntKind.i64.wrap (4 + x4)) 1 fun q23 =>
  Ld1 W_5 q23 fun u24 =>
  AsI .u16 u24 fun x24 =>
  Any W_5 fun W_6 =>
  StV 1 W_6 q3 (.int .u64 (IntKind.u64.wrap ((IntKind.u64.wrap (65536 * x11)) + (IntKind.u64.wrap x15)))) fun W_7 =>
  StL W_7 q23 (.int .u16 x24) <|
  StV 1 W_7 (q3.add 1) (.int .u64 (IntKind.u64.wrap ((IntKind.u64.wrap (65536 * x19)) + (IntKind.u64.wrap x24)))) fun W_8 =>
  k [.int .i64 (IntKind.i64.wrap (x4 + 1))] W_8) (LdNC W_5 q3 2 fun l29 =>
  StV 2 W_5 q2 (.agg l29.toArray) fun W_9 =>
  LdNC W_9 q2 2 fun l2 =>
  Q (.agg l2.toArray) W_9)) [.int .i64 0] W_4
theorem F167_eq (g0 : Array Value) (Q : Value → World → Prop) (kp : List PanicEntry → World → Prop) (W : World) : vcFn Tryz.prog [] Tryz.f167 [.agg g0] W Q kp = F167 g0 Q kp W := by kernel_rfl
theorem F167_ok : okFn Tryz.f167 1 = true := by kernel_rfl
theorem F167_fn {g0 : Array Value} {Q : Value → World → Prop} {W : World} (h : F167 g0 Q (fun _ _ => False) W) : Gives Tryz.prog 167 #[.agg g0] W Q := fn_of_vc (plan := []) mixed Tryz.func167 F167_ok (by rw [F167_eq]; exact h)
def F201 (s0 : ByteArray) (b1 : Bool) (f2 : Addr) (Q : Value → World → Prop) (kp : List PanicEntry → World → Prop) (W : World) : Prop :=
  CallK Tryz.prog 123 #[.string s0] W kp fun u12 W_1 =>
  AsT2 u12 fun u12a u12b =>
  AsI .u32 u12a fun x12a =>
  AsI .i64 u12b fun x12b =>
  Join (fun (b19 : Bool) (W_2 : World) =>
  If b19 (Ld1 W_2 f2 fun u20 =>
  AsL u20 fun a20 n20 c20 =>
  Shl 16 <|
  NewSC 2 (zeroRow 2 #[.int .u16 0]) [(0, 1, .int .u16 (IntKind.u16.wrap (Int.fdiv x12a (2 ^ (min (Int.toNat 16) (IntKind.u32).bits))))), (1, 1, .int .u16 (IntKind.u16.wrap x12a))] 167 W_2 fun q26 W_3 =>
  RunW Tryz.prog (Builtin.append_ #[173, 173] 173 #[.slice a20 n20 c20, .slice (some q26) 2 2]) W_3 fun u27 W_4 =>
  AsL u27 fun a27 n27 c27 =>
  StV 1 W_4 f2 (.slice a27 n27 c27) fun W_5 =>
  Q (.bool true) W_5) (CallK Tryz.prog 202 #[.string s0] W_2 kp fun u30 W_6 =>
  AsT2 u30 fun u30a u30b =>
  AsI .u16 u30a fun x30a =>
  AsB u30b fun b30b =>
  Ld1 W_6 f2 fun u33 =>
  AsL u33 fun a33 n33 c33 =>
  NewSC 1 (zeroRow 1 #[.int .u16 0]) [(0, 1, .int .u16 x30a)] 167 W_6 fun q35 W_7 =>
  RunW Tryz.prog (Builtin.append_ #[173, 173] 173 #[.slice a33 n33 c33, .slice (some q35) 1 1]) W_7 fun u36 W_8 =>
  AsL u36 fun a36 n36 c36 =>
  StV 1 W_8 f2 (.slice a36 n36 c36) fun W_9 =>
  Q (.bool b30b) W_9)) fun (J : Bool → World → Prop) =>
  If b1 (J ((x12b : Int) == 0) W_1) (J false W_1)
theorem F201_eq (s0 : ByteArray) (b1 : Bool) (f2 : Addr) (Q : Value → World → Prop) (kp : List PanicEntry → World → Prop) (W : World) : vcFn Tryz.prog [] Tryz.f201 [.string s0, .bool b1, .pointer (some f2)] W Q kp = F201 s0 b1 f2 Q kp W := by kernel_rfl
theorem F201_ok : okFn Tryz.f201 3 = true := by kernel_rfl
theorem F201_fn {s0 : ByteArray} {b1 : Bool} {f2 : Addr} {Q : Value → World → Prop} {W : World} (h : F201 s0 b1 f2 Q (fun _ _ => False) W) : Gives Tryz.prog 201 #[.string s0, .bool b1, .pointer (some f2)] W Q := fn_of_vc (plan := []) mixed Tryz.func201 F201_ok (by rw [F201_eq]; exact h)
def F202 (s0 : ByteArray) (Q : Value → World → Prop) (kp : List PanicEntry → World → Prop) (W : World) : Prop :=
  Lp (fun s W_1 k =>
  AsI .u16 (s.getD 0 undef) fun x2 =>
  AsB (s.getD 1 undef) fun b3 =>
  AsI .u16 (s.getD 2 undef) fun x4 =>
  AsI .i64 (s.getD 3 undef) fun x9 =>
  If (decide ((x9 : Int) < (ByteArray.size s0 : Int))) (IdxStr s0 x9 fun c14 =>
  CallK Tryz.prog 221 #[.string (⟨#[48, 49, 50, 51, 52, 53, 54, 55, 56, 57, 97, 98, 99, 100, 101, 102, 65, 66, 67, 68, 69, 70]⟩), .int .u8 (c14.toNat : Int)] W_1 kp fun u15 W_2 =>
  AsI .i64 u15 fun x15 =>
  If (decide ((x15 : Int) < 0)) (Q (.tuple #[.int .u16 0, .bool false]) W_2) (Join (fun (x6 : Int) (W_3 : World) =>
  Shl 4 <|
  k [.int .u16 x2, .bool b3, .int .u16 (IntKind.u16.wrap ((((BitVec.ofInt (IntKind.u16).bits (IntKind.u16.wrap (x4 * 2 ^ (min (Int.toNat 4) (IntKind.u16).bits)))) ||| (BitVec.ofInt (IntKind.u16).bits (IntKind.u16.wrap x6))).toNat : Int))), .int .i64 (IntKind.i64.wrap (x9 + 1))] W_3) fun (J : Int → World → Prop) =>
  If (decide ((x15 : Int) ≥ 16)) (J (IntKind.i64.wrap (x15 - 6)) W_2) (J x15 W_2))) (Join (fun (b36 : Bool) (W_4 : World) =>
  Q (.tuple #[.int .u16 x4, .bool b36]) W_4) fun (J_1 : Bool → World → Prop) =>
  If (decide (((ByteArray.size s0 : Int) : Int) ≥ 1)) (J_1 (decide (((ByteArray.size s0 : Int) : Int) ≤ 4)) W_1) (J_1 false W_1))) [.int .u16 0, .bool false, .int .u16 0, .int .i64 0] W
theorem F202_eq (s0 : ByteArray) (Q : Value → World → Prop) (kp : List PanicEntry → World → Prop) (W : World) : vcFn Tryz.prog [] Tryz.f202 [.string s0] W Q kp = F202 s0 Q kp W := by kernel_rfl
theorem F202_ok : okFn Tryz.f202 1 = true := by kernel_rfl
theorem F202_fn {s0 : ByteArray} {Q : Value → World → Prop} {W : World} (h : F202 s0 Q (fun _ _ => False) W) : Gives Tryz.prog 202 #[.string s0] W Q := fn_of_vc (plan := []) mixed Tryz.func202 F202_ok (by rw [F202_eq]; exact h)
def F196 (s0 : ByteArray) (Q : Value → World → Prop) (kp : List PanicEntry → World → Prop) (W : World) : Prop :=
  Lp (fun s W_1 k =>
  AsI .u16 (s.getD 0 undef) fun x4 =>
  AsI .u16 (s.getD 1 undef) fun x2 =>
  AsB (s.getD 2 undef) fun b3 =>
  AsI .i64 (s.getD 3 undef) fun x5 =>
  If (decide ((x5 : Int) < (ByteArray.size s0 : Int))) (IdxStr s0 x5 fun c15 =>
  Join (fun (b22 : Bool) (W_2 : World) =>
  Join (fun (x2_1 : Int) (b3_1 : Bool) (x4_1 : Int) (W_3 : World) =>
  k [.int .u16 x4_1, .int .u16 x2_1, .bool b3_1, .int .i64 (IntKind.i64.wrap (x5 + 1))] W_3) fun (J_1 : Int → Bool → Int → World → Prop) =>
  If b22 (J_1 x2 b3 (IntKind.u16.wrap ((IntKind.u16.wrap ((IntKind.u16.wrap (16 * x4)) + (IntKind.u16.wrap (c15.toNat : Int)))) - 48)) W_2) (Join (fun (b35 : Bool) (W_4 : World) =>
  Join (fun (x2_2 : Int) (b3_2 : Bool) (x4_2 : Int) (W_5 : World) =>
  J_1 x2_2 b3_2 x4_2 W_5) fun (J_3 : Int → Bool → Int → World → Prop) =>
  If b35 (J_3 x2 b3 (IntKind.u16.wrap ((IntKind.u16.wrap ((IntKind.u16.wrap (16 * x4)) + (IntKind.u16.wrap (c15.toNat : Int)))) - 87)) W_4) (Join (fun (b48 : Bool) (W_6 : World) =>
  If b48 (J_3 x2 b3 (IntKind.u16.wrap ((IntKind.u16.wrap ((IntKind.u16.wrap (16 * x4)) + (IntKind.u16.wrap (c15.toNat : Int)))) - 55)) W_6) (Q (.tuple #[.int .u16 0, .bool false]) W_6)) fun (J_4 : Bool → World → Prop) =>
  If (decide (((c15.toNat : Int) : Int) ≥ 65)) (J_4 (decide (((c15.toNat : Int) : Int) ≤ 70)) W_4) (J_4 false W_4))) fun (J_2 : Bool → World → Prop) =>
  If (decide (((c15.toNat : Int) : Int) ≥ 97)) (J_2 (decide (((c15.toNat : Int) : Int) ≤ 102)) W_2) (J_2 false W_2))) fun (J : Bool → World → Prop) =>
  If (decide (((c15.toNat : Int) : Int) ≥ 48)) (J (decide (((c15.toNat : Int) : Int) ≤ 57)) W_1) (J false W_1)) (Join (fun (b63 : Bool) (W_7 : World) =>
  Q (.tuple #[.int .u16 x4, .bool b63]) W_7) fun (J_5 : Bool → World → Prop) =>
  If (decide (((ByteArray.size s0 : Int) : Int) > 0)) (J_5 (decide (((ByteArray.size s0 : Int) : Int) < 5)) W_1) (J_5 false W_1))) [.int .u16 0, .int .u16 0, .bool false, .int .i64 0] W
theorem F196_eq (s0 : ByteArray) (Q : Value → World → Prop) (kp : List PanicEntry → World → Prop) (W : World) : vcFn Tryz.prog [] Tryz.f196 [.string s0] W Q kp = F196 s0 Q kp W := by kernel_rfl
theorem F196_ok : okFn Tryz.f196 1 = true := by kernel_rfl
theorem F196_fn {s0 : ByteArray} {Q : Value → World → Prop} {W : World} (h : F196 s0 Q (fun _ _ => False) W) : Gives Tryz.prog 196 #[.string s0] W Q := fn_of_vc (plan := []) mixed Tryz.func196 F196_ok (by rw [F196_eq]; exact h)
def F187 (x0 : Int) (x1 : Int) (Q : Value → World → Prop) (kp : List PanicEntry → World → Prop) (W : World) : Prop :=
  CallK Tryz.prog 213 #[.int .u64 x0, .int .i64 x1] W kp fun u7 W_1 =>
  AsS u7 fun s7 =>
  Q (.string s7) W_1
theorem F187_eq (x0 : Int) (x1 : Int) (Q : Value → World → Prop) (kp : List PanicEntry → World → Prop) (W : World) : vcFn Tryz.prog [] Tryz.f187 [.int .u64 x0, .int .i64 x1] W Q kp = F187 x0 x1 Q kp W := by kernel_rfl
theorem F187_ok : okFn Tryz.f187 2 = true := by kernel_rfl
theorem F187_fn {x0 : Int} {x1 : Int} {Q : Value → World → Prop} {W : World} (h : F187 x0 x1 Q (fun _ _ => False) W) : Gives Tryz.prog 187 #[.int .u64 x0, .int .i64 x1] W Q := fn_of_vc (plan := []) mixed Tryz.func187 F187_ok (by rw [F187_eq]; exact h)
def F213 (x0 : Int) (x1 : Int) (Q : Value → World → Prop) (kp : List PanicEntry → World → Prop) (W : World) : Prop :=
  If ((x1 : Int) == 10) (If (decide ((x0 : Int) < 100)) (CallK Tryz.prog 225 #[.int .i64 (IntKind.i64.wrap x0)] W kp fun u15 W_1 =>
  AsS u15 fun s15 =>
  Q (.string s15) W_1) (NewA #[.int .u8 0, .int .u8 0, .int .u8 0, .int .u8 0, .int .u8 0, .int .u8 0, .int .u8 0, .int .u8 0, .int .u8 0, .int .u8 0, .int .u8 0, .int .u8 0, .int .u8 0, .int .u8 0, .int .u8 0, .int .u8 0, .int .u8 0, .int .u8 0, .int .u8 0, .int .u8 0, .int .u8 0, .int .u8 0, .int .u8 0, .int .u8 0] 239 W fun q5 W_2 =>
  CallK Tryz.prog 226 #[.int .u64 x0] W_2 kp fun u17 W_3 =>
  AsI .i64 u17 fun x17 =>
  SlB 24 24 none (some x17) fun i19 j19 =>
  CallK Tryz.prog 227 #[.slice (some (if 24 = i19 then q5 else Addr.add q5 (i19 * 1))) (j19 - i19) (24 - i19), .int .u64 x0] W_3 kp fun u21 W_4 =>
  SlB 24 24 none (some x17) fun i23 j23 =>
  RunR Tryz.prog (convert 82 9 (.slice (some (if 24 = i23 then q5 else Addr.add q5 (i23 * 1))) (j23 - i23) (24 - i23))) W_4 fun u24 =>
  AsS u24 fun s24 =>
  Q (.string s24) W_4)) (CallK Tryz.prog 228 #[.slice none 0 0, .int .u64 x0, .int .i64 x1, .bool false, .bool false] W kp fun u28 W_5 =>
  AsT2 u28 fun u28a u28b =>
  AsL u28a fun a28a n28a c28a =>
  AsS u28b fun s28b =>
  Q (.string s28b) W_5)
theorem F213_eq (x0 : Int) (x1 : Int) (Q : Value → World → Prop) (kp : List PanicEntry → World → Prop) (W : World) : vcFn Tryz.prog [] Tryz.f213 [.int .u64 x0, .int .i64 x1] W Q kp = F213 x0 x1 Q kp W := by kernel_rfl
theorem F213_ok : okFn Tryz.f213 2 = true := by kernel_rfl
theorem F213_fn {x0 : Int} {x1 : Int} {Q : Value → World → Prop} {W : World} (h : F213 x0 x1 Q (fun _ _ => False) W) : Gives Tryz.prog 213 #[.int .u64 x0, .int .i64 x1] W Q := fn_of_vc (plan := []) mixed Tryz.func213 F213_ok (by rw [F213_eq]; exact h)
def F228 (a0 : Option Addr) (n0 c0 : Nat) (x1 : Int) (x2 : Int) (b3 : Bool) (b4 : Bool) (Q : Value → World → Prop) (kp : List PanicEntry → World → Prop) (W : World) : Prop :=
  Join (fun (b24 : Bool) (W_1 : World) =>
  Join (fun (b28 : Bool) (W_2 : World) =>
  Join (fun (W_3 : World) =>
  NewA #[.int .u8 0, .int .u8 0, .int .u8 0, .int .u8 0, .int .u8 0, .int .u8 0, .int .u8 0, .int .u8 0, .int .u8 0, .int .u8 0, .int .u8 0, .int .u8 0, .int .u8 0, .int .u8 0, .int .u8 0, .int .u8 0, .int .u8 0, .int .u8 0, .int .u8 0, .int .u8 0, .int .u8 0, .int .u8 0, .int .u8 0, .int .u8 0, .int .u8 0, .int .u8 0, .int .u8 0, .int .u8 0, .int .u8 0, .int .u8 0, .int .u8 0, .int .u8 0, .int .u8 0, .int .u8 0, .int .u8 0, .int .u8 0, .int .u8 0, .int .u8 0, .int .u8 0, .int .u8 0, .int .u8 0, .int .u8 0, .int .u8 0, .int .u8 0, .int .u8 0, .int .u8 0, .int .u8 0, .int .u8 0, .int .u8 0, .int .u8 0, .int .u8 0, .int .u8 0, .int .u8 0, .int .u8 0, .int .u8 0, .int .u8 0, .int .u8 0, .int .u8 0, .int .u8 0, .int .u8 0, .int .u8 0, .int .u8 0, .int .u8 0, .int .u8 0, .int .u8 0] 256 W_3 fun q12 W_4 =>
  Join (fun (x1_1 : Int) (W_5 : World) =>
  CallK Tryz.prog 239 #[.int .i64 x2] W_5 kp fun u34 W_6 =>
  AsB u34 fun b34 =>
  Join (fun (x1_2 : Int) (x13 : Int) (W_7 : World) =>
  Join (fun (x13_1 : Int) (W_8 : World) =>
  If b4 (SlB 65 65 (some x13_1) none fun i97 j97 =>
  RunW Tryz.prog (Builtin.append_ #[82, 82] 82 #[.slice a0 n0 c0, .slice (some (if 65 = i97 then q12 else Addr.add q12 (i97 * 1))) (j97 - i97) (65 - i97)]) W_8 fun u98 W_9 =>
  AsL u98 fun a98 n98 c98 =>
  Q (.tuple #[.slice a98 n98 c98, .string (⟨#[]⟩)]) W_9) (SlB 65 65 (some x13_1) none fun i100 j100 =>
  RunR Tryz.prog (convert 82 9 (.slice (some (if 65 = i100 then q12 else Addr.add q12 (i100 * 1))) (j100 - i100) (65 - i100))) W_8 fun u101 =>
  AsS u101 fun s101 =>
  Q (.tuple #[.slice none 0 0, .string s101]) W_8)) fun (J_5 : Int → World → Prop) =>
  If b3 (IdxA q12 65 (IntKind.i64.wrap (x13 - 1)) 1 fun q93 =>
  StV 1 W_7 q93 (.int .u8 45) fun W_10 =>
  J_5 (IntKind.i64.wrap (x13 - 1)) W_10) (J_5 x13 W_7)) fun (J_4 : Int → Int → World → Prop) =>
  If b34 (CallK Tryz.prog 240 #[.int .u64 (IntKind.u64.wrap x2)] W_6 kp fun u37 W_11 =>
  AsI .i64 u37 fun x37 =>
  Lp (fun s W_12 k =>
  AsI .i64 (s.getD 0 undef) fun x13_2 =>
  AsI .u64 (s.getD 1 undef) fun x1_3 =>
  If (decide ((x1_3 : Int) ≥ (IntKind.u64.wrap x2))) (IdxStr (⟨#[48, 49, 50, 51, 52, 53, 54, 55, 56, 57, 97, 98, 99, 100, 101, 102, 103, 104, 105, 106, 107, 108, 109, 110, 111, 112, 113, 114, 115, 116, 117, 118, 119, 120, 121, 122]⟩) (IntKind.u64.wrap ((((BitVec.ofInt (IntKind.u64).bits x1_3) &&& (BitVec.ofInt (IntKind.u64).bits (IntKind.u64.wrap ((IntKind.u64.wrap x2) - 1)))).toNat : Int))) fun c53 =>
  IdxA q12 65 (IntKind.i64.wrap (x13_2 - 1)) 1 fun q54 =>
  StV 1 W_12 q54 (.int .u8 (c53.toNat : Int)) fun W_13 =>
  Shl (IntKind.u64.wrap x37) <|
  k [.int .i64 (IntKind.i64.wrap (x13_2 - 1)), .int .u64 (Int.fdiv x1_3 (2 ^ (min (Int.toNat (IntKind.u64.wrap x37)) (IntKind.u64).bits)))] W_13) (IdxStr (⟨#[48, 49, 50, 51, 52, 53, 54, 55, 56, 57, 97, 98, 99, 100, 101, 102, 103, 104, 105, 106, 107, 108, 109, 110, 111, 112, 113, 114, 115, 116, 117, 118, 119, 120, 121, 122]⟩) x1_3 fun c62 =>
  IdxA q12 65 (IntKind.i64.wrap (x13_2 - 1)) 1 fun q63 =>
  StV 1 W_12 q63 (.int .u8 (c62.toNat : Int)) fun W_14 =>
  J_4 x1_3 (IntKind.i64.wrap (x13_2 - 1)) W_14)) [.int .i64 65, .int .u64 x1_1] W_11) (Lp (fun s_1 W_15 k_1 =>
  AsI .i64 (s_1.getD 0 undef) fun x13_3 =>
  AsI .u64 (s_1.getD 1 undef) fun x1_4 =>
  If (decide ((x1_4 : Int) ≥ (IntKind.u64.wrap x2))) (Dv (IntKind.u64.wrap x2) <|
  IdxStr (⟨#[48, 49, 50, 51, 52, 53, 54, 55, 56, 57, 97, 98, 99, 100, 101, 102, 103, 104, 105, 106, 107, 108, 109, 110, 111, 112, 113, 114, 115, 116, 117, 118, 119, 120, 121, 122]⟩) (IntKind.u64.wrap (x1_4 - (IntKind.u64.wrap ((IntKind.u64.wrap (x1_4.tdiv (IntKind.u64.wrap x2))) * (IntKind.u64.wrap x2))))) fun c80 =>
  IdxA q12 65 (IntKind.i64.wrap (x13_3 - 1)) 1 fun q81 =>
  StV 1 W_15 q81 (.int .u8 (c80.toNat : Int)) fun W_16 =>
  k_1 [.int .i64 (IntKind.i64.wrap (x13_3 - 1)), .int .u64 (IntKind.u64.wrap (x1_4.tdiv (IntKind.u64.wrap x2)))] W_16) (IdxStr (⟨#[48, 49, 50, 51, 52, 53, 54, 55, 56, 57, 97, 98, 99, 100, 101, 102, 103, 104, 105, 106, 107, 108, 109, 110, 111, 112, 113, 114, 115, 116, 117, 118, 119, 120, 121, 122]⟩) x1_4 fun c87 =>
  IdxA q12 65 (IntKind.i64.wrap (x13_3 - 1)) 1 fun q88 =>
  StV 1 W_15 q88 (.int .u8 (c87.toNat : Int)) fun W_17 =>
  J_4 x1_4 (IntKind.i64.wrap (x13_3 - 1)) W_17)) [.int .i64 65, .int .u64 x1_1] W_6)) fun (J_3 : Int → World → Prop) =>
  If b3 (J_3 (IntKind.u64.wrap (0 - x1)) W_4) (J_3 x1 W_4)) fun (J_2 : World → Prop) =>
  If b28 (YieldK Tryz.prog (panicSem (.iface 9 (.string (⟨#[115, 116, 114, 99, 111, 110, 118, 58, 32, 105, 108, 108, 101, 103, 97, 108, 32, 65, 112, 112, 101, 110, 100, 73, 110, 116, 47, 70, 111, 114, 109, 97, 116, 73, 110, 116, 32, 98, 97, 115, 101]⟩)))) W_2 kp fun u_ W_18 =>
  J_2 W_18) (J_2 W_2)) fun (J_1 : Bool → World → Prop) =>
  If b24 (J_1 true W_1) (J_1 (decide ((x2 : Int) > 36)) W_1)) fun (J : Bool → World → Prop) =>
  If (decide ((x2 : Int) < 2)) (J true W) (J ((x2 : Int) == 10) W)
theorem F228_eq (a0 : Option Addr) (n0 c0 : Nat) (x1 : Int) (x2 : Int) (b3 : Bool) (b4 : Bool) (Q : Value → World → Prop) (kp : List PanicEntry → World → Prop) (W : World) : vcFn Tryz.prog [] Tryz.f228 [.slice a0 n0 c0, .int .u64 x1, .int .i64 x2, .bool b3, .bool b4] W Q kp = F228 a0 n0 c0 x1 x2 b3 b4 Q kp W := by kernel_rfl
theorem F228_ok : okFn Tryz.f228 5 = true := by kernel_rfl
theorem F228_fn {a0 : Option Addr} {n0 c0 : Nat} {x1 : Int} {x2 : Int} {b3 : Bool} {b4 : Bool} {Q : Value → World → Prop} {W : World} (h : F228 a0 n0 c0 x1 x2 b3 b4 Q (fun _ _ => False) W) : Gives Tryz.prog 228 #[.slice a0 n0 c0, .int .u64 x1, .int .i64 x2, .bool b3, .bool b4] W Q := fn_of_vc (plan := []) mixed Tryz.func228 F228_ok (by rw [F228_eq]; exact h)
def F239 (x0 : Int) (Q : Value → World → Prop) (kp : List PanicEntry → World → Prop) (W : World) : Prop :=
  Q (.bool (((IntKind.i64.wrap ((((BitVec.ofInt (IntKind.i64).bits x0) &&& (BitVec.ofInt (IntKind.i64).bits (IntKind.i64.wrap (x0 - 1)))).toNat : Int))) : Int) == 0)) W
theorem F239_eq (x0 : Int) (Q : Value → World → Prop) (kp : List PanicEntry → World → Prop) (W : World) : vcFn Tryz.prog [] Tryz.f239 [.int .i64 x0] W Q kp = F239 x0 Q kp W := by kernel_rfl
theorem F239_ok : okFn Tryz.f239 1 = true := by kernel_rfl
theorem F239_fn {x0 : Int} {Q : Value → World → Prop} {W : World} (h : F239 x0 Q (fun _ _ => False) W) : Gives Tryz.prog 239 #[.int .i64 x0] W Q := fn_of_vc (plan := []) mixed Tryz.func239 F239_ok (by rw [F239_eq]; exact h)
def F240 (x0 : Int) (Q : Value → World → Prop) (kp : List PanicEntry → World → Prop) (W : World) : Prop :=
  CallK Tryz.prog 245 #[.int .u64 x0] W kp fun u7 W_1 =>
  AsI .i64 u7 fun x7 =>
  Q (.int .i64 x7) W_1
theorem F240_eq (x0 : Int) (Q : Value → World → Prop) (kp : List PanicEntry → World → Prop) (W : World) : vcFn Tryz.prog [] Tryz.f240 [.int .u64 x0] W Q kp = F240 x0 Q kp W := by kernel_rfl
theorem F240_ok : okFn Tryz.f240 1 = true := by kernel_rfl
theorem F240_fn {x0 : Int} {Q : Value → World → Prop} {W : World} (h : F240 x0 Q (fun _ _ => False) W) : Gives Tryz.prog 240 #[.int .u64 x0] W Q := fn_of_vc (plan := []) mixed Tryz.func240 F240_ok (by rw [F240_eq]; exact h)
def F245 (x0 : Int) (Q : Value → World → Prop) (kp : List PanicEntry → World → Prop) (W : World) : Prop :=
  If ((x0 : Int) == 0) (Q (.int .i64 64) W) (Shl 58 <|
  IdxA (⟨7, 0, none⟩) 64 (Int.fdiv (IntKind.u64.wrap ((IntKind.u64.wrap ((((BitVec.ofInt (IntKind.u64).bits x0) &&& (BitVec.ofInt (IntKind.u64).bits (IntKind.u64.wrap (0 - x0)))).toNat : Int))) * 285870213051353865)) (2 ^ (min (Int.toNat 58) (IntKind.u64).bits))) 1 fun q11 =>
  Ld1 W q11 fun u12 =>
  AsI .u8 u12 fun x12 =>
  Q (.int .i64 (IntKind.i64.wrap x12)) W)
theorem F245_eq (x0 : Int) (Q : Value → World → Prop) (kp : List PanicEntry → World → Prop) (W : World) : vcFn Tryz.prog [] Tryz.f245 [.int .u64 x0] W Q kp = F245 x0 Q kp W := by kernel_rfl
theorem F245_ok : okFn Tryz.f245 1 = true := by kernel_rfl
theorem F245_fn {x0 : Int} {Q : Value → World → Prop} {W : World} (h : F245 x0 Q (fun _ _ => False) W) : Gives Tryz.prog 245 #[.int .u64 x0] W Q := fn_of_vc (plan := []) mixed Tryz.func245 F245_ok (by rw [F245_eq]; exact h)
end Go.Proofs.YtngecegnlhmnlaaGreatDoor.Fs
namespace Go.Proofs.YtngecegnlhmnlaaGreatDoor.Si
def gs (hi lo : Nat) : List Nat := [hi / 281474976710656 % 65536, hi / 4294967296 % 65536, hi / 65536 % 65536, hi % 65536, lo / 281474976710656 % 65536, lo / 4294967296 % 65536, lo / 65536 % 65536, lo % 65536]
def ofG (l : List Nat) : Nat := l.foldl (fun a c => a * 65536 + c) 0
theorem gs_lt (hi lo : Nat) : ∀ n ∈ gs hi lo, n < 65536 := fun n hn => by
  simp only [gs, List.mem_cons, List.not_mem_nil, or_false] at hn
  omega
theorem ofG_four {a b c d : Nat} : ofG [a, b, c, d] = ((a * 65536 + b) * 65536 + c) * 65536 + d := by
  simp only [ofG, List.foldl_cons, List.foldl_nil]; omega
theorem ofG_hi {hi : Nat} (h : hi < 18446744073709551616) : ofG [hi / 281474976710656 % 65536, hi / 4294967296 % 65536, hi / 65536 % 65536, hi % 65536] = hi := by
  rw [ofG_four]; omega
theorem ofG_append (l m : List Nat) : ofG (l ++ m) = ofG l * 65536 ^ m.length + ofG m := by
  unfold ofG
  rw [List.foldl_append]
  generalize l.foldl (fun a c => a * 65536 + c) 0 = x
  have : ∀ (m : List Nat) (x y : Nat), m.foldl (fun a c => a * 65536 + c) (x * 65536 ^ 0 + y) = x * 65536 ^ m.length + m.foldl (fun a c => a * 65536 + c) y := by
    intro m
    induction m with
    | nil => intro x y; simp
    | cons z r ih =>
      intro x y
      rw [List.foldl_cons, List.foldl_cons, List.length_cons]
      have e : (x * 65536 ^ 0 + y) * 65536 + z = (x * 65536) * 65536 ^ 0 + (y * 65536 + z) := by
        simp only [Nat.pow_zero, Nat.mul_one, Nat.add_mul, Nat.add_assoc]
      rw [e, ih, Nat.pow_succ, Nat.mul_assoc, Nat.mul_comm 65536 (65536 ^ r.length)]
  have h := this m x 0
  simpa using h
theorem fold_bound : ∀ (l : List Nat) (x p : Nat), x < p → (∀ n ∈ l, n < 65536) → l.foldl (fun a c => a * 65536 + c) x < p * 65536 ^ l.length
  | [], x, p, h, _ => by simpa using h
  | c :: r, x, p, h, hl => by
    rw [List.foldl_cons, List.length_cons, Nat.pow_succ]
    have hc := hl c (List.mem_cons_self ..)
    have h1 : x * 65536 + c < p * 65536 := by omega
    have := fold_bound r _ _ h1 fun n hn => hl n (List.mem_cons_of_mem _ hn)
    rw [Nat.mul_assoc, Nat.mul_comm 65536] at this
    exact this
theorem ofG_bound (l : List Nat) (h : ∀ n ∈ l, n < 65536) : ofG l < 65536 ^ l.length := by
  have := fold_bound l 0 1 (by decide) h
  rwa [Nat.one_mul] at this
theorem ofG_gs {hi lo : Nat} (h1 : hi < 18446744073709551616) (h2 : lo < 18446744073709551616) : ofG (gs hi lo) = hi * 18446744073709551616 + lo := by
  have e : gs hi lo = [hi / 281474976710656 % 65536, hi / 4294967296 % 65536, hi / 65536 % 65536, hi % 65536] ++ [lo / 281474976710656 % 65536, lo / 4294967296 % 65536, lo / 65536 % 65536, lo % 65536] := rfl
  rw [e, ofG_append, ofG_hi h1, ofG_hi h2]
  simp only [List.length_cons, List.length_nil]
def zat (z : List Bool) (i : Nat) : Bool := z.getD i false
def cnt (z : List Bool) (i : Nat) : Nat → Nat → Nat
  | 0, n => n
  | f + 1, n => if i + n < 8 ∧ zat z (i + n) = true then cnt z i f (n + 1) else n
def runS (z : List Bool) : Nat → Nat → Nat → Nat → Nat × Nat
  | 0, _, at', long => if long < 2 then (0, 0) else (at', long)
  | f + 1, i, at', long => if cnt z i 8 0 > long then runS z f (i + 1) i (cnt z i 8 0) else runS z f (i + 1) at' long
def run (z : List Bool) : Nat × Nat := runS z 8 0 0 0
def zerosR (z : List Bool) (e : Nat) : Nat → Nat → Bool
  | 0, _ => true
  | f + 1, i => if i < e then (if i > 7 ∨ zat z i = false then false else zerosR z e f (i + 1)) else true
def atR (z : List Bool) (n : Nat) : Nat → Nat → Option Nat
  | 0, _ => none
  | f + 1, i => if zerosR z (i + n) 9 i then some i else atR z n f (i + 1)
def runR (z : List Bool) : Nat → Nat × Nat
  | 0 => (0, 0)
  | f + 1 => match atR z (f + 2) 8 0 with
    | some i => (i, f + 2)
    | none => runR z f
theorem run_eq : ∀ a b c d e f g h : Bool, runR [a, b, c, d, e, f, g, h] 7 = run [a, b, c, d, e, f, g, h] := by decide +kernel
theorem run_len : ∀ a b c d e f g h : Bool, (run [a, b, c, d, e, f, g, h]).1 + (run [a, b, c, d, e, f, g, h]).2 ≤ 8 ∧ ((run [a, b, c, d, e, f, g, h]).2 = 0 → (run [a, b, c, d, e, f, g, h]).1 = 0) ∧ (run [a, b, c, d, e, f, g, h]).2 ≠ 1 := by decide +kernel
theorem run_zeros : ∀ a b c d e f g h : Bool, (List.range 8).all (fun i => decide (i < (run [a, b, c, d, e, f, g, h]).1) || decide ((run [a, b, c, d, e, f, g, h]).1 + (run [a, b, c, d, e, f, g, h]).2 ≤ i) || zat [a, b, c, d, e, f, g, h] i) = true := by decide +kernel
end Go.Proofs.YtngecegnlhmnlaaGreatDoor.Si
namespace Go.Proofs
open Go.Shelf
def Tryz.lays156_ren : Go.Shelf.Ren := ⟨fun | 156 => 55 | 165 => 104 | 166 => 56 | 169 => 57 | 240 => 105 | 241 => 163 | 276 => 164 | 277 => 195 | n => n, fun | 31 => 74 | 9 => 9 | 3 => 3 | 4 => 4 | 0 => 0 | 20 => 20 | 72 => 84 | 76 => 87 | 70 => 81 | 37 => 82 | 75 => 86 | 127 => 137 | 164 => 194 | 5 => 5 | 80 => 89 | n => n, fun | n => n⟩
theorem Tryz.lays156 : Go.Proofs.Lays.n156 Tryz.prog Tryz.lays156_ren := {
  mixed := by kernel_rfl
  f156 := Tryz.func55.trans (congrArg some (by kernel_rfl))
  f165 := Tryz.func104.trans (congrArg some (by kernel_rfl))
  f166 := Tryz.func56.trans (congrArg some (by kernel_rfl))
  f169 := Tryz.func57.trans (congrArg some (by kernel_rfl))
  f240 := Tryz.func105.trans (congrArg some (by kernel_rfl))
  f241 := Tryz.func163.trans (congrArg some (by kernel_rfl))
  f276 := Tryz.func164.trans (congrArg some (by kernel_rfl))
  f277 := Tryz.func195.trans (congrArg some (by kernel_rfl))
  t0 := Tryz.underlying0
  a0 := Tryz.isAgg0
  z0 := Tryz.sizeOf0
  v0 := Tryz.zeroValue0
  t3 := Tryz.underlying3
  a3 := Tryz.isAgg3
  z3 := Tryz.sizeOf3
  v3 := Tryz.zeroValue3
  t4 := Tryz.underlying4
  a4 := Tryz.isAgg4
  z4 := Tryz.sizeOf4
  v4 := Tryz.zeroValue4
  t9 := Tryz.underlying9
  a9 := Tryz.isAgg9
  z9 := Tryz.sizeOf9
  v9 := Tryz.zeroValue9
  t20 := Tryz.underlying20
  a20 := Tryz.isAgg20
  z20 := Tryz.sizeOf20
  v20 := Tryz.zeroValue20
  t31 := Tryz.underlying74
  a31 := Tryz.isAgg74
  z31 := Tryz.sizeOf74
  v31 := Tryz.zeroValue74
  t37 := Tryz.underlying82
  a37 := Tryz.isAgg82
  z37 := Tryz.sizeOf82
  v37 := Tryz.zeroValue82
  t70 := Tryz.underlying81
  a70 := Tryz.isAgg81
  z70 := Tryz.sizeOf81
  v70 := Tryz.zeroValue81
  t72 := Tryz.underlying84
  a72 := Tryz.isAgg84
  z72 := Tryz.sizeOf84
  v72 := Tryz.zeroValue84
  t75 := Tryz.underlying86
  a75 := Tryz.isAgg86
  z75 := Tryz.sizeOf86
  v75 := Tryz.zeroValue86
  t76 := Tryz.underlying87
  a76 := Tryz.isAgg87
  z76 := Tryz.sizeOf87
  v76 := Tryz.zeroValue87
  t127 := Tryz.underlying137
  a127 := Tryz.isAgg137
  z127 := Tryz.sizeOf137
  v127 := Tryz.zeroValue137
  t164 := Tryz.underlying194
  a164 := Tryz.isAgg194
  z164 := Tryz.sizeOf194
  v164 := Tryz.zeroValue194 }
theorem Tryz.Builder_Extra_156 : Builder.Extra Tryz.prog Tryz.lays156_ren := {
  sizeBuilder := by kernel_rfl
  liesBuilder := by kernel_rfl
  t5 := Tryz.underlying5
  a5 := Tryz.isAgg5
  z5 := Tryz.sizeOf5
  v5 := Tryz.zeroValue5
  infoByte := by kernel_rfl
  cellsByte := by kernel_rfl
  sizeByte := by kernel_rfl
  neB5 := by decide }
open Go.RowKit in
theorem Tryz.strings_Join_none (a : Option Addr) (c : Nat) (sep : ByteArray) (w : World) :
    Calls Tryz.prog 55 #[.slice a 0 c, .string sep] w fun e w' => e = .returned (.string ⟨#[]⟩) ∧ w' = w := Any.strings_Join_none Tryz.lays156 Tryz.Builder_Extra_156 a c sep w
open Go.RowKit in
theorem Tryz.strings_Join (bk o c : Nat) (xs : List ByteArray) (sep : ByteArray) (w : World) (hcells : ∀ (j : Nat) x, xs[j]? = some x → w.cell? ⟨bk, o + j, none⟩ = some (.string x)) (hbk : bk < w.heap.size) (hN : xs.length ≤ 140737488355328) (hcap : xs.length ≤ c) (hlen : (Lib.join (xs.map (·.data.toList)) sep.data.toList).length ≤ 140737488355328) :
    Calls Tryz.prog 55 #[.slice (some ⟨bk, o, none⟩) xs.length c, .string sep] w fun e w' => e = .returned (.string ⟨(Lib.join (xs.map (·.data.toList)) sep.data.toList).toArray⟩) ∧ Below w.heap.size w w' := Any.strings_Join Tryz.lays156 Tryz.Builder_Extra_156 bk o c xs sep w hcells hbk hN hcap hlen
def Tryz.laysM171_ren : Go.Shelf.Ren := ⟨fun | 171 => 139 | 243 => 186 | 246 => 212 | 283 => 225 | 284 => 226 | 285 => 227 | 286 => 228 | 129 => 237 | 317 => 236 | 318 => 238 | 319 => 239 | 320 => 240 | 337 => 244 | 338 => 245 | n => n, fun | 3 => 3 | 9 => 9 | 2 => 2 | 4 => 4 | 171 => 239 | 0 => 0 | 53 => 25 | 37 => 82 | 5 => 5 | 173 => 242 | 212 => 255 | 51 => 122 | 20 => 20 | 213 => 256 | 46 => 213 | 232 => 270 | 233 => 271 | n => n, fun | 17 => 3 | 18 => 6 | 19 => 7 | n => n⟩
theorem Tryz.laysM171 : Go.Proofs.LaysM.n171 Tryz.prog Tryz.laysM171_ren := {
  mixed := by kernel_rfl
  f129 := Tryz.func237.trans (congrArg some (by kernel_rfl))
  f171 := Tryz.func139.trans (congrArg some (by kernel_rfl))
  f243 := Tryz.func186.trans (congrArg some (by kernel_rfl))
  f246 := Tryz.func212.trans (congrArg some (by kernel_rfl))
  f283 := Tryz.func225.trans (congrArg some (by kernel_rfl))
  f284 := Tryz.func226.trans (congrArg some (by kernel_rfl))
  f285 := Tryz.func227.trans (congrArg some (by kernel_rfl))
  f286 := Tryz.func228.trans (congrArg some (by kernel_rfl))
  f317 := Tryz.func236.trans (congrArg some (by kernel_rfl))
  f318 := Tryz.func238.trans (congrArg some (by kernel_rfl))
  f319 := Tryz.func239.trans (congrArg some (by kernel_rfl))
  f320 := Tryz.func240.trans (congrArg some (by kernel_rfl))
  f337 := Tryz.func244.trans (congrArg some (by kernel_rfl))
  f338 := Tryz.func245.trans (congrArg some (by kernel_rfl))
  t0 := Tryz.underlying0
  a0 := Tryz.isAgg0
  z0 := Tryz.sizeOf0
  v0 := Tryz.zeroValue0
  t2 := Tryz.underlying2
  a2 := Tryz.isAgg2
  z2 := Tryz.sizeOf2
  v2 := Tryz.zeroValue2
  t3 := Tryz.underlying3
  a3 := Tryz.isAgg3
  z3 := Tryz.sizeOf3
  v3 := Tryz.zeroValue3
  t4 := Tryz.underlying4
  a4 := Tryz.isAgg4
  z4 := Tryz.sizeOf4
  v4 := Tryz.zeroValue4
  t5 := Tryz.underlying5
  a5 := Tryz.isAgg5
  z5 := Tryz.sizeOf5
  v5 := Tryz.zeroValue5
  t9 := Tryz.underlying9
  a9 := Tryz.isAgg9
  z9 := Tryz.sizeOf9
  v9 := Tryz.zeroValue9
  t20 := Tryz.underlying20
  a20 := Tryz.isAgg20
  z20 := Tryz.sizeOf20
  v20 := Tryz.zeroValue20
  t37 := Tryz.underlying82
  a37 := Tryz.isAgg82
  z37 := Tryz.sizeOf82
  v37 := Tryz.zeroValue82
  t46 := Tryz.underlying213
  a46 := Tryz.isAgg213
  z46 := Tryz.sizeOf213
  v46 := Tryz.zeroValue213
  t51 := Tryz.underlying122
  a51 := Tryz.isAgg122
  z51 := Tryz.sizeOf122
  v51 := Tryz.zeroValue122
  t53 := Tryz.underlying25
  a53 := Tryz.isAgg25
  z53 := Tryz.sizeOf25
  v53 := Tryz.zeroValue25
  t171 := Tryz.underlying239
  a171 := Tryz.isAgg239
  z171 := Tryz.sizeOf239
  v171 := Tryz.zeroValue239
  t173 := Tryz.underlying242
  a173 := Tryz.isAgg242
  z173 := Tryz.sizeOf242
  v173 := Tryz.zeroValue242
  t212 := Tryz.underlying255
  a212 := Tryz.isAgg255
  z212 := Tryz.sizeOf255
  v212 := Tryz.zeroValue255
  t213 := Tryz.underlying256
  a213 := Tryz.isAgg256
  z213 := Tryz.sizeOf256
  t232 := Tryz.underlying270
  a232 := Tryz.isAgg270
  z232 := Tryz.sizeOf270
  v232 := Tryz.zeroValue270
  t233 := Tryz.underlying271
  a233 := Tryz.isAgg271
  z233 := Tryz.sizeOf271
  v233 := Tryz.zeroValue271
  g17 := by kernel_rfl
  g18 := by kernel_rfl
  g19 := by kernel_rfl
  i0 := by kernel_rfl
  i2 := by kernel_rfl
  i3 := by kernel_rfl
  i4 := by kernel_rfl
  i5 := by kernel_rfl
  i9 := by kernel_rfl
  i20 := by kernel_rfl
  i37 := by kernel_rfl
  i46 := by kernel_rfl
  i51 := by kernel_rfl
  i53 := by kernel_rfl
  i171 := by kernel_rfl
  i173 := by kernel_rfl
  i212 := by kernel_rfl
  i232 := by kernel_rfl
  i233 := by kernel_rfl
  m17 := by kernel_rfl
  m18 := by kernel_rfl
  m19 := by kernel_rfl }
open Go.RowKit Go.Sort Go.Lib in
theorem Tryz.strconv_Itoa (n : Int) (h0 : -9223372036854775808 ≤ n) (h1 : n ≤ 9223372036854775807) (w : World) (htab : Lib.TabIs Tryz.prog w "internal/strconv.uint64pow10" .u64 Lib.pow10Tab) :
    Calls Tryz.prog 139 #[.int .i64 n] w fun e w' => e = .returned (.string ⟨(Lib.itoa n).toArray⟩) ∧ ∃ k os, w' = grow (w.drewN k) os := Any.strconv_Itoa Tryz.laysM171 n h0 h1 w htab
def Tryz.laysC172_ren : Go.Shelf.Ren := ⟨fun | 172 => 200 | 244 => 219 | 245 => 220 | 247 => 231 | 279 => 232 | 280 => 233 | 281 => 234 | 282 => 235 | 287 => 241 | 316 => 242 | 171 => 139 | 205 => 243 | 321 => 246 | 322 => 247 | 243 => 186 | 246 => 212 | 283 => 225 | 284 => 226 | 285 => 227 | 286 => 228 | 129 => 237 | 317 => 236 | 318 => 238 | 319 => 239 | 320 => 240 | 337 => 244 | 338 => 245 | n => n, fun | 9 => 9 | 3 => 3 | 75 => 86 | 76 => 87 | 4 => 4 | 5 => 5 | 167 => 248 | 37 => 82 | 0 => 0 | 85 => 249 | 2 => 2 | 168 => 251 | 53 => 25 | 175 => 259 | 46 => 213 | 210 => 263 | 127 => 137 | 145 => 269 | 143 => 267 | 21 => 21 | 171 => 239 | 173 => 242 | 212 => 255 | 51 => 122 | 20 => 20 | 213 => 256 | 232 => 270 | 233 => 271 | 80 => 89 | n => n, fun | 15 => 4 | 16 => 5 | 17 => 3 | 18 => 6 | 19 => 7 | n => n⟩
theorem Tryz.laysC172 : Go.Proofs.LaysC.n172 Tryz.prog Tryz.laysC172_ren := {
  mixed := by kernel_rfl
  f129 := Tryz.func237.trans (congrArg some (by kernel_rfl))
  f171 := Tryz.func139.trans (congrArg some (by kernel_rfl))
  f172 := Tryz.func200.trans (congrArg some (by kernel_rfl))
  f205 := Tryz.func243.trans (congrArg some (by kernel_rfl))
  f243 := Tryz.func186.trans (congrArg some (by kernel_rfl))
  f244 := Tryz.func219.trans (congrArg some (by kernel_rfl))
  f245 := Tryz.func220.trans (congrArg some (by kernel_rfl))
  f246 := Tryz.func212.trans (congrArg some (by kernel_rfl))
  f247 := Tryz.func231.trans (congrArg some (by kernel_rfl))
  f279 := Tryz.func232.trans (congrArg some (by kernel_rfl))
  f280 := Tryz.func233.trans (congrArg some (by kernel_rfl))
  f281 := Tryz.func234.trans (congrArg some (by kernel_rfl))
  f282 := Tryz.func235.trans (congrArg some (by kernel_rfl))
  f283 := Tryz.func225.trans (congrArg some (by kernel_rfl))
  f284 := Tryz.func226.trans (congrArg some (by kernel_rfl))
  f285 := Tryz.func227.trans (congrArg some (by kernel_rfl))
  f286 := Tryz.func228.trans (congrArg some (by kernel_rfl))
  f287 := Tryz.func241.trans (congrArg some (by kernel_rfl))
  f316 := Tryz.func242.trans (congrArg some (by kernel_rfl))
  f317 := Tryz.func236.trans (congrArg some (by kernel_rfl))
  f318 := Tryz.func238.trans (congrArg some (by kernel_rfl))
  f319 := Tryz.func239.trans (congrArg some (by kernel_rfl))
  f320 := Tryz.func240.trans (congrArg some (by kernel_rfl))
  f321 := Tryz.func246.trans (congrArg some (by kernel_rfl))
  f322 := Tryz.func247.trans (congrArg some (by kernel_rfl))
  f337 := Tryz.func244.trans (congrArg some (by kernel_rfl))
  f338 := Tryz.func245.trans (congrArg some (by kernel_rfl))
  t0 := Tryz.underlying0
  a0 := Tryz.isAgg0
  z0 := Tryz.sizeOf0
  v0 := Tryz.zeroValue0
  t2 := Tryz.underlying2
  a2 := Tryz.isAgg2
  z2 := Tryz.sizeOf2
  v2 := Tryz.zeroValue2
  t3 := Tryz.underlying3
  a3 := Tryz.isAgg3
  z3 := Tryz.sizeOf3
  v3 := Tryz.zeroValue3
  t4 := Tryz.underlying4
  a4 := Tryz.isAgg4
  z4 := Tryz.sizeOf4
  v4 := Tryz.zeroValue4
  t5 := Tryz.underlying5
  a5 := Tryz.isAgg5
  z5 := Tryz.sizeOf5
  v5 := Tryz.zeroValue5
  t9 := Tryz.underlying9
  a9 := Tryz.isAgg9
  z9 := Tryz.sizeOf9
  v9 := Tryz.zeroValue9
  t20 := Tryz.underlying20
  a20 := Tryz.isAgg20
  z20 := Tryz.sizeOf20
  v20 := Tryz.zeroValue20
  t21 := Tryz.underlying21
  a21 := Tryz.isAgg21
  z21 := Tryz.sizeOf21
  v21 := Tryz.zeroValue21
  t37 := Tryz.underlying82
  a37 := Tryz.isAgg82
  z37 := Tryz.sizeOf82
  v37 := Tryz.zeroValue82
  t46 := Tryz.underlying213
  a46 := Tryz.isAgg213
  z46 := Tryz.sizeOf213
  v46 := Tryz.zeroValue213
  t51 := Tryz.underlying122
  a51 := Tryz.isAgg122
  z51 := Tryz.sizeOf122
  v51 := Tryz.zeroValue122
  t53 := Tryz.underlying25
  a53 := Tryz.isAgg25
  z53 := Tryz.sizeOf25
  v53 := Tryz.zeroValue25
  t75 := Tryz.underlying86
  a75 := Tryz.isAgg86
  z75 := Tryz.sizeOf86
  v75 := Tryz.zeroValue86
  t76 := Tryz.underlying87
  a76 := Tryz.isAgg87
  z76 := Tryz.sizeOf87
  v76 := Tryz.zeroValue87
  t85 := Tryz.underlying249
  a85 := Tryz.isAgg249
  z85 := Tryz.sizeOf249
  v85 := Tryz.zeroValue249
  t127 := Tryz.underlying137
  a127 := Tryz.isAgg137
  z127 := Tryz.sizeOf137
  v127 := Tryz.zeroValue137
  t143 := Tryz.underlying267
  a143 := Tryz.isAgg267
  z143 := Tryz.sizeOf267
  v143 := Tryz.zeroValue267
  t145 := Tryz.underlying269
  a145 := Tryz.isAgg269
  z145 := Tryz.sizeOf269
  v145 := Tryz.zeroValue269
  t167 := Tryz.underlying248
  a167 := Tryz.isAgg248
  z167 := Tryz.sizeOf248
  v167 := Tryz.zeroValue248
  t168 := Tryz.underlying251
  a168 := Tryz.isAgg251
  z168 := Tryz.sizeOf251
  v168 := Tryz.zeroValue251
  t171 := Tryz.underlying239
  a171 := Tryz.isAgg239
  z171 := Tryz.sizeOf239
  v171 := Tryz.zeroValue239
  t173 := Tryz.underlying242
  a173 := Tryz.isAgg242
  z173 := Tryz.sizeOf242
  v173 := Tryz.zeroValue242
  t175 := Tryz.underlying259
  a175 := Tryz.isAgg259
  z175 := Tryz.sizeOf259
  v175 := Tryz.zeroValue259
  t210 := Tryz.underlying263
  a210 := Tryz.isAgg263
  z210 := Tryz.sizeOf263
  v210 := Tryz.zeroValue263
  t212 := Tryz.underlying255
  a212 := Tryz.isAgg255
  z212 := Tryz.sizeOf255
  v212 := Tryz.zeroValue255
  t213 := Tryz.underlying256
  a213 := Tryz.isAgg256
  z213 := Tryz.sizeOf256
  t232 := Tryz.underlying270
  a232 := Tryz.isAgg270
  z232 := Tryz.sizeOf270
  v232 := Tryz.zeroValue270
  t233 := Tryz.underlying271
  a233 := Tryz.isAgg271
  z233 := Tryz.sizeOf271
  v233 := Tryz.zeroValue271
  g15 := by kernel_rfl
  g16 := by kernel_rfl
  g17 := by kernel_rfl
  g18 := by kernel_rfl
  g19 := by kernel_rfl
  t80 := Tryz.underlying89
  a80 := Tryz.isAgg89
  z80 := Tryz.sizeOf89
  v80 := Tryz.zeroValue89
  i0 := by kernel_rfl
  i2 := by kernel_rfl
  i3 := by kernel_rfl
  i4 := by kernel_rfl
  i5 := by kernel_rfl
  i9 := by kernel_rfl
  i20 := by kernel_rfl
  i21 := by kernel_rfl
  i37 := by kernel_rfl
  i46 := by kernel_rfl
  i51 := by kernel_rfl
  i53 := by kernel_rfl
  i75 := by kernel_rfl
  i76 := by kernel_rfl
  i80 := by kernel_rfl
  i85 := by kernel_rfl
  i127 := by kernel_rfl
  i143 := by kernel_rfl
  i145 := by kernel_rfl
  i167 := by kernel_rfl
  i168 := by kernel_rfl
  i171 := by kernel_rfl
  i173 := by kernel_rfl
  i175 := by kernel_rfl
  i210 := by kernel_rfl
  i212 := by kernel_rfl
  i232 := by kernel_rfl
  i233 := by kernel_rfl
  m15 := by kernel_rfl
  m16 := by kernel_rfl
  m17 := by kernel_rfl
  m18 := by kernel_rfl
  m19 := by kernel_rfl
  c0 := by kernel_rfl
  c2 := by kernel_rfl
  c3 := by kernel_rfl
  c4 := by kernel_rfl
  c5 := by kernel_rfl
  c9 := by kernel_rfl
  c20 := by kernel_rfl
  c21 := by kernel_rfl
  c37 := by kernel_rfl
  c46 := by kernel_rfl
  c51 := by kernel_rfl
  c53 := by kernel_rfl
  c75 := by kernel_rfl
  c76 := by kernel_rfl
  c80 := by kernel_rfl
  c85 := by kernel_rfl
  c127 := by kernel_rfl
  c143 := by kernel_rfl
  c145 := by kernel_rfl
  c167 := by kernel_rfl
  c168 := by kernel_rfl
  c171 := by kernel_rfl
  c173 := by kernel_rfl
  c175 := by kernel_rfl
  c210 := by kernel_rfl
  c212 := by kernel_rfl
  c213 := by kernel_rfl
  c232 := by kernel_rfl
  c233 := by kernel_rfl }
open Go.RowKit in
theorem Tryz.strconv_Atoi_ok (s : ByteArray) (hmax : s.size ≤ 9223372036854775806) (v : Int) (h : Lib.atoiAll s.data.toList = .ok v) (w : World) :
    Calls Tryz.prog 200 #[.string s] w fun e w' => e = .returned (.tuple #[.int .i64 v, .nilIface]) ∧ (w' = w ∨ ∃ t, w' = Lib.bytesWorld w 5 t) := Any.strconv_Atoi_ok Tryz.laysC172 s hmax v h w
open Go.RowKit in
theorem Tryz.strconv_Atoi_syntax_var (s : ByteArray) (hlim : s.size ≤ 281474976710656) (h : Lib.atoiAll s.data.toList = Lib.atoiAll []) (tp : TypeId) (p : Value) (w : World) (hvar : w.var? Tryz.prog "strconv.ErrSyntax" = some #[.iface tp p]) :
    Calls Tryz.prog 200 #[.string s] w fun e w' => ∃ N, e = .returned (.tuple #[.int .i64 0, .iface 251 (.pointer (some ⟨N, 0, none⟩))]) ∧ w.heap.size ≤ N ∧ w'.heap[N]? = some (.cells #[.string ⟨#[65, 116, 111, 105]⟩, .string s, .iface tp p] 263 (0, 0)) ∧ Below w.heap.size w w' := Any.strconv_Atoi_syntax_var Tryz.laysC172 s hlim h tp p w hvar
open Go.RowKit in
theorem Tryz.strconv_Atoi_range_var (s : ByteArray) (hlim : s.size ≤ 281474976710656) (h : Lib.atoiAll s.data.toList = .range) (tp : TypeId) (p : Value) (w : World) (hvar : w.var? Tryz.prog "strconv.ErrRange" = some #[.iface tp p]) :
    Calls Tryz.prog 200 #[.string s] w fun e w' => ∃ N, e = .returned (.tuple #[.int .i64 (Lib.atoiSat s.data.toList), .iface 251 (.pointer (some ⟨N, 0, none⟩))]) ∧ w.heap.size ≤ N ∧ w'.heap[N]? = some (.cells #[.string ⟨#[65, 116, 111, 105]⟩, .string s, .iface tp p] 263 (0, 0)) ∧ Below w.heap.size w w' := Any.strconv_Atoi_range_var Tryz.laysC172 s hlim h tp p w hvar
def Tryz.lays146_ren : Go.Shelf.Ren := ⟨fun | 146 => 66 | 221 => 117 | 268 => 169 | 138 => 155 | 143 => 170 | 195 => 191 | 197 => 198 | 218 => 192 | 219 => 199 | 260 => 214 | 217 => 215 | 225 => 216 | 224 => 217 | 267 => 218 | 266 => 229 | 314 => 230 | n => n, fun | 9 => 9 | 31 => 74 | 3 => 3 | 4 => 4 | 0 => 0 | 105 => 224 | 21 => 21 | 5 => 5 | 46 => 213 | 119 => 244 | 139 => 247 | 138 => 246 | 146 => 202 | 51 => 122 | n => n, fun | 1 => 0 | 3 => 1 | 4 => 2 | n => n⟩
theorem Tryz.lays146 : Go.Proofs.Lays.n146 Tryz.prog Tryz.lays146_ren := {
  mixed := by kernel_rfl
  f138 := Tryz.func155.trans (congrArg some (by kernel_rfl))
  f143 := Tryz.func170.trans (congrArg some (by kernel_rfl))
  f146 := Tryz.func66.trans (congrArg some (by kernel_rfl))
  f195 := Tryz.func191.trans (congrArg some (by kernel_rfl))
  f197 := Tryz.func198.trans (congrArg some (by kernel_rfl))
  f217 := Tryz.func215.trans (congrArg some (by kernel_rfl))
  f218 := Tryz.func192.trans (congrArg some (by kernel_rfl))
  f219 := Tryz.func199.trans (congrArg some (by kernel_rfl))
  f221 := Tryz.func117.trans (congrArg some (by kernel_rfl))
  f224 := Tryz.func217.trans (congrArg some (by kernel_rfl))
  f225 := Tryz.func216.trans (congrArg some (by kernel_rfl))
  f260 := Tryz.func214.trans (congrArg some (by kernel_rfl))
  f266 := Tryz.func229.trans (congrArg some (by kernel_rfl))
  f267 := Tryz.func218.trans (congrArg some (by kernel_rfl))
  f268 := Tryz.func169.trans (congrArg some (by kernel_rfl))
  f314 := Tryz.func230.trans (congrArg some (by kernel_rfl))
  t0 := Tryz.underlying0
  a0 := Tryz.isAgg0
  z0 := Tryz.sizeOf0
  v0 := Tryz.zeroValue0
  t3 := Tryz.underlying3
  a3 := Tryz.isAgg3
  z3 := Tryz.sizeOf3
  v3 := Tryz.zeroValue3
  t4 := Tryz.underlying4
  a4 := Tryz.isAgg4
  z4 := Tryz.sizeOf4
  v4 := Tryz.zeroValue4
  t5 := Tryz.underlying5
  a5 := Tryz.isAgg5
  z5 := Tryz.sizeOf5
  v5 := Tryz.zeroValue5
  t9 := Tryz.underlying9
  a9 := Tryz.isAgg9
  z9 := Tryz.sizeOf9
  v9 := Tryz.zeroValue9
  t21 := Tryz.underlying21
  a21 := Tryz.isAgg21
  z21 := Tryz.sizeOf21
  v21 := Tryz.zeroValue21
  t31 := Tryz.underlying74
  a31 := Tryz.isAgg74
  z31 := Tryz.sizeOf74
  v31 := Tryz.zeroValue74
  t46 := Tryz.underlying213
  a46 := Tryz.isAgg213
  z46 := Tryz.sizeOf213
  v46 := Tryz.zeroValue213
  t51 := Tryz.underlying122
  a51 := Tryz.isAgg122
  z51 := Tryz.sizeOf122
  v51 := Tryz.zeroValue122
  t105 := Tryz.underlying224
  a105 := Tryz.isAgg224
  z105 := Tryz.sizeOf224
  v105 := Tryz.zeroValue224
  t119 := Tryz.underlying244
  a119 := Tryz.isAgg244
  z119 := Tryz.sizeOf244
  t138 := Tryz.underlying246
  a138 := Tryz.isAgg246
  z138 := Tryz.sizeOf246
  v138 := Tryz.zeroValue246
  t139 := Tryz.underlying247
  a139 := Tryz.isAgg247
  z139 := Tryz.sizeOf247
  v139 := Tryz.zeroValue247
  t146 := Tryz.underlying202
  a146 := Tryz.isAgg202
  z146 := Tryz.sizeOf202
  v146 := Tryz.zeroValue202
  g1 := by kernel_rfl
  g3 := by kernel_rfl
  g4 := by kernel_rfl }
open Go.RowKit Go.Lib in
theorem Tryz.strings_Split (s sep : ByteArray) (m : Int) (w : World) (hs : s.size < 4294967281) (hm : w.cell? ⟨0, 0, none⟩ = some (.int .i64 m)) (h1 : 1 ≤ sep.size) :
    Calls Tryz.prog 66 #[.string s, .string sep] w fun e w' =>
      e = .returned (.slice (some ⟨w.heap.size, 0, none⟩) (Lib.countB s sep + 1) (Lib.countB s sep + 1)) ∧ w' = w.alloc (.cells ((Lib.splitB sep 0 (Lib.countB s sep) s).map Value.string).toArray 9) := Any.strings_Split Tryz.lays146 (by kernel_rfl) s sep m w hs hm h1
end Go.Proofs
namespace Go.Proofs.YtngecegnlhmnlaaGreatDoor.Fs
open Go Go.RowKit Go.Vc
set_option linter.unusedVariables false
def F84 (x0 : Int) (Q : Value → World → Prop) (kp : List PanicEntry → World → Prop) (W : World) : Prop :=
  CallK Tryz.prog 138 #[.int .u32 x0] W kp fun u7 W_1 =>
  Lp (fun s W_2 k =>
  AsL (s.getD 0 undef) fun a3 n3 c3 =>
  AsI .i64 (s.getD 1 undef) fun x8 =>
  If (decide ((x8 : Int) < 4)) (AsG u7 fun g10 =>
  IdxV 4 x8 fun j10 =>
  Fld g10 (j10 * 1) fun u10 =>
  AsI .u8 u10 fun x10 =>
  CallK Tryz.prog 139 #[.int .i64 (IntKind.i64.wrap x10)] W_2 kp fun u14 W_3 =>
  AsS u14 fun s14 =>
  NewSC 1 (zeroRow 1 #[.string ByteArray.empty]) [(0, 1, .string s14)] 9 W_3 fun q15 W_4 =>
  RunW Tryz.prog (Builtin.append_ #[74, 74] 74 #[.slice a3 n3 c3, .slice (some q15) 1 1]) W_4 fun u16 W_5 =>
  AsL u16 fun a16 n16 c16 =>
  k [.slice a16 n16 c16, .int .i64 (IntKind.i64.wrap (x8 + 1))] W_5) (CallK Tryz.prog 55 #[.slice a3 n3 c3, .string (⟨#[46]⟩)] W_2 kp fun u19 W_6 =>
  AsS u19 fun s19 =>
  Q (.string s19) W_6)) [.slice none 0 0, .int .i64 0] W_1
theorem F84_eq (x0 : Int) (Q : Value → World → Prop) (kp : List PanicEntry → World → Prop) (W : World) : vcFn Tryz.prog [] Tryz.f84 [.int .u32 x0] W Q kp = F84 x0 Q kp W := by kernel_rfl
theorem F84_ok : okFn Tryz.f84 1 = true := by kernel_rfl
theorem F84_fn {x0 : Int} {Q : Value → World → Prop} {W : World} (h : F84 x0 Q (fun _ _ => False) W) : Gives Tryz.prog 84 #[.int .u32 x0] W Q := fn_of_vc (plan := []) mixed Tryz.func84 F84_ok (by rw [F84_eq]; exact h)
def F138 (x0 : Int) (Q : Value → World → Prop) (kp : List PanicEntry → World → Prop) (W : World) : Prop :=
  NewA #[.int .u8 0, .int .u8 0, .int .u8 0, .int .u8 0] 165 W fun q2 W_1 =>
  Shl 24 <|
  Shl 16 <|
  Shl 8 <|
  BldC [.int .u8 0, .int .u8 0, .int .u8 0, .int .u8 0] [(0, 1, .int .u8 (IntKind.u8.wrap (Int.fdiv x0 (2 ^ (min (Int.toNat 24) (IntKind.u32).bits))))), (1, 1, .int .u8 (IntKind.u8.wrap (Int.fdiv x0 (2 ^ (min (Int.toNat 16) (IntKind.u32).bits))))), (2, 1, .int .u8 (IntKind.u8.wrap (Int.fdiv x0 (2 ^ (min (Int.toNat 8) (IntKind.u32).bits))))), (3, 1, .int .u8 (IntKind.u8.wrap x0))] fun cs14 =>
  StV 4 W_1 q2 (.agg cs14) fun W_2 =>
  LdNC W_2 q2 4 fun l2 =>
  Q (.agg l2.toArray) W_2
theorem F138_eq (x0 : Int) (Q : Value → World → Prop) (kp : List PanicEntry → World → Prop) (W : World) : vcFn Tryz.prog [] Tryz.f138 [.int .u32 x0] W Q kp = F138 x0 Q kp W := by kernel_rfl
theorem F138_ok : okFn Tryz.f138 1 = true := by kernel_rfl
theorem F138_fn {x0 : Int} {Q : Value → World → Prop} {W : World} (h : F138 x0 Q (fun _ _ => False) W) : Gives Tryz.prog 138 #[.int .u32 x0] W Q := fn_of_vc (plan := []) mixed Tryz.func138 F138_ok (by rw [F138_eq]; exact h)
def F172 (s0 : ByteArray) (Q : Value → World → Prop) (kp : List PanicEntry → World → Prop) (W : World) : Prop :=
  CallK Tryz.prog 200 #[.string s0] W kp fun u8 W_1 =>
  AsT2 u8 fun u8a u8b =>
  AsI .i64 u8a fun x8a =>
  RunP Tryz.prog (binRun .eql 86 (.tmp 13) (.const (.nilIface)) u8b (.nilIface)) fun u14 =>
  AsB u14 fun b14 =>
  Join (fun (b18 : Bool) (W_2 : World) =>
  Join (fun (b22 : Bool) (W_3 : World) =>
  Join (fun (b28 : Bool) (W_4 : World) =>
  Q (.tuple #[.int .u8 (IntKind.u8.wrap x8a), .bool b28]) W_4) fun (J_2 : Bool → World → Prop) =>
  If b22 (CallK Tryz.prog 139 #[.int .i64 x8a] W_3 kp fun u25 W_5 =>
  AsS u25 fun s25 =>
  J_2 (ByteArray.toList s25 == ByteArray.toList s0) W_5) (J_2 false W_3)) fun (J_1 : Bool → World → Prop) =>
  If b18 (J_1 (decide ((x8a : Int) ≤ 255)) W_2) (J_1 false W_2)) fun (J : Bool → World → Prop) =>
  If b14 (J (decide ((x8a : Int) ≥ 0)) W_1) (J false W_1)
theorem F172_eq (s0 : ByteArray) (Q : Value → World → Prop) (kp : List PanicEntry → World → Prop) (W : World) : vcFn Tryz.prog [] Tryz.f172 [.string s0] W Q kp = F172 s0 Q kp W := by kernel_rfl
theorem F172_ok : okFn Tryz.f172 1 = true := by kernel_rfl
theorem F172_fn {s0 : ByteArray} {Q : Value → World → Prop} {W : World} (h : F172 s0 Q (fun _ _ => False) W) : Gives Tryz.prog 172 #[.string s0] W Q := fn_of_vc (plan := []) mixed Tryz.func172 F172_ok (by rw [F172_eq]; exact h)
def F173 (g0 : Array Value) (Q : Value → World → Prop) (kp : List PanicEntry → World → Prop) (W : World) : Prop :=
  NewA g0 165 W fun q1 W_1 =>
  LdNC W_1 q1 4 fun l6 =>
  Lp (fun s W_2 k =>
  AsI .u32 (s.getD 0 undef) fun x3 =>
  AsI .i64 (s.getD 1 undef) fun x7 =>
  If (decide ((x7 : Int) < 4)) (IdxV 4 x7 fun j9 =>
  Fld l6.toArray (j9 * 1) fun u9 =>
  AsI .u8 u9 fun x9 =>
  Shl 8 <|
  k [.int .u32 (IntKind.u32.wrap ((((BitVec.ofInt (IntKind.u32).bits (IntKind.u32.wrap (x3 * 2 ^ (min (Int.toNat 8) (IntKind.u32).bits)))) ||| (BitVec.ofInt (IntKind.u32).bits (IntKind.u32.wrap x9))).toNat : Int))), .int .i64 (IntKind.i64.wrap (x7 + 1))] W_2) (Q (.int .u32 x3) W_2)) [.int .u32 0, .int .i64 0] W_1
theorem F173_eq (g0 : Array Value) (Q : Value → World → Prop) (kp : List PanicEntry → World → Prop) (W : World) : vcFn Tryz.prog [] Tryz.f173 [.agg g0] W Q kp = F173 g0 Q kp W := by kernel_rfl
theorem F173_ok : okFn Tryz.f173 1 = true := by kernel_rfl
theorem F173_fn {g0 : Array Value} {Q : Value → World → Prop} {W : World} (h : F173 g0 Q (fun _ _ => False) W) : Gives Tryz.prog 173 #[.agg g0] W Q := fn_of_vc (plan := []) mixed Tryz.func173 F173_ok (by rw [F173_eq]; exact h)
def F123 (s0 : ByteArray) (Q : Value → World → Prop) (kp : List PanicEntry → World → Prop) (W : World) : Prop :=
  CallK Tryz.prog 66 #[.string s0, .string (⟨#[46]⟩)] W kp fun u11 W_1 =>
  AsL u11 fun a11 n11 c11 =>
  If (((n11 : Int) : Int) != 4) (Q (.tuple #[.int .u32 0, .int .i64 3]) W_1) (NewA #[.int .u8 0, .int .u8 0, .int .u8 0, .int .u8 0] 165 W_1 fun q5 W_2 =>
  Lp (fun s W_3 k =>
  AsI .u32 (s.getD 0 undef) fun x2 =>
  AsI .i64 (s.getD 1 undef) fun x3 =>
  AsI .i64 (s.getD 2 undef) fun x17 =>
  If (decide ((x17 : Int) < (n11 : Int))) (IdxS a11 n11 x17 1 fun q20 =>
  Ld1 W_3 q20 fun u21 =>
  AsS u21 fun s21 =>
  CallK Tryz.prog 172 #[.string s21] W_3 kp fun u24 W_4 =>
  AsT2 u24 fun u24a u24b =>
  AsI .u8 u24a fun x24a =>
  AsB u24b fun b24b =>
  If (!b24b) (Q (.tuple #[.int .u32 0, .int .i64 3]) W_4) (IdxA q5 4 x17 1 fun q31 =>
  StV 1 W_4 q31 (.int .u8 x24a) fun W_5 =>
  k [.int .u32 x2, .int .i64 x3, .int .i64 (IntKind.i64.wrap (x17 + 1))] W_5)) (LdNC W_3 q5 4 fun l33 =>
  CallK Tryz.prog 173 #[.agg l33.toArray] W_3 kp fun u34 W_6 =>
  AsI .u32 u34 fun x34 =>
  Q (.tuple #[.int .u32 x34, .int .i64 0]) W_6)) [.int .u32 0, .int .i64 0, .int .i64 0] W_2)
theorem F123_eq (s0 : ByteArray) (Q : Value → World → Prop) (kp : List PanicEntry → World → Prop) (W : World) : vcFn Tryz.prog [] Tryz.f123 [.string s0] W Q kp = F123 s0 Q kp W := by kernel_rfl
theorem F123_ok : okFn Tryz.f123 1 = true := by kernel_rfl
theorem F123_fn {s0 : ByteArray} {Q : Value → World → Prop} {W : World} (h : F123 s0 Q (fun _ _ => False) W) : Gives Tryz.prog 123 #[.string s0] W Q := fn_of_vc (plan := []) mixed Tryz.func123 F123_ok (by rw [F123_eq]; exact h)
def F88 (x0 : Int) (Q : Value → World → Prop) (kp : List PanicEntry → World → Prop) (W : World) : Prop :=
  Dv 16777216 <|
  CallK Tryz.prog 144 #[.int .u32 (IntKind.u32.wrap (x0.tdiv 16777216))] W kp fun u5 W_1 =>
  AsS u5 fun s5 =>
  Cat s5 (⟨#[46]⟩) <|
  Dv 65536 <|
  Dv 256 <|
  CallK Tryz.prog 144 #[.int .u32 ((IntKind.u32.wrap (x0.tdiv 65536)).tmod 256)] W_1 kp fun u10 W_2 =>
  AsS u10 fun s10 =>
  Cat (s5 ++ (⟨#[46]⟩)) s10 <|
  Cat ((s5 ++ (⟨#[46]⟩)) ++ s10) (⟨#[46]⟩) <|
  Dv 256 <|
  Dv 256 <|
  CallK Tryz.prog 144 #[.int .u32 ((IntKind.u32.wrap (x0.tdiv 256)).tmod 256)] W_2 kp fun u16 W_3 =>
  AsS u16 fun s16 =>
  Cat (((s5 ++ (⟨#[46]⟩)) ++ s10) ++ (⟨#[46]⟩)) s16 <|
  Cat ((((s5 ++ (⟨#[46]⟩)) ++ s10) ++ (⟨#[46]⟩)) ++ s16) (⟨#[46]⟩) <|
  Dv 256 <|
  CallK Tryz.prog 144 #[.int .u32 (x0.tmod 256)] W_3 kp fun u21 W_4 =>
  AsS u21 fun s21 =>
  Cat (((((s5 ++ (⟨#[46]⟩)) ++ s10) ++ (⟨#[46]⟩)) ++ s16) ++ (⟨#[46]⟩)) s21 <|
  Q (.string ((((((s5 ++ (⟨#[46]⟩)) ++ s10) ++ (⟨#[46]⟩)) ++ s16) ++ (⟨#[46]⟩)) ++ s21)) W_4
theorem F88_eq (x0 : Int) (Q : Value → World → Prop) (kp : List PanicEntry → World → Prop) (W : World) : vcFn Tryz.prog [] Tryz.f88 [.int .u32 x0] W Q kp = F88 x0 Q kp W := by kernel_rfl
theorem F88_ok : okFn Tryz.f88 1 = true := by kernel_rfl
theorem F88_fn {x0 : Int} {Q : Value → World → Prop} {W : World} (h : F88 x0 Q (fun _ _ => False) W) : Gives Tryz.prog 88 #[.int .u32 x0] W Q := fn_of_vc (plan := []) mixed Tryz.func88 F88_ok (by rw [F88_eq]; exact h)
def F144 (x0 : Int) (Q : Value → World → Prop) (kp : List PanicEntry → World → Prop) (W : World) : Prop :=
  Lp (fun s W_1 k =>
  AsS (s.getD 0 undef) fun s3 =>
  AsI .u32 (s.getD 1 undef) fun x0_1 =>
  Join (fun (b9 : Bool) (W_2 : World) =>
  If b9 (Dv 10 <|
  Dv 10 <|
  SlB (ByteArray.size (⟨#[48, 49, 50, 51, 52, 53, 54, 55, 56, 57]⟩)) (ByteArray.size (⟨#[48, 49, 50, 51, 52, 53, 54, 55, 56, 57]⟩)) (some (x0_1.tmod 10)) (some (IntKind.u32.wrap ((x0_1.tmod 10) + 1))) fun i15 j15 =>
  Cat (ByteArray.extract (⟨#[48, 49, 50, 51, 52, 53, 54, 55, 56, 57]⟩) i15 j15) s3 <|
  Dv 10 <|
  k [.string ((ByteArray.extract (⟨#[48, 49, 50, 51, 52, 53, 54, 55, 56, 57]⟩) i15 j15) ++ s3), .int .u32 (IntKind.u32.wrap (x0_1.tdiv 10))] W_2) (Q (.string s3) W_2)) fun (J : Bool → World → Prop) =>
  If (decide ((x0_1 : Int) > 0)) (J true W_1) (J (ByteArray.toList s3 == ByteArray.toList (⟨#[]⟩)) W_1)) [.string (⟨#[]⟩), .int .u32 x0] W
theorem F144_eq (x0 : Int) (Q : Value → World → Prop) (kp : List PanicEntry → World → Prop) (W : World) : vcFn Tryz.prog [] Tryz.f144 [.int .u32 x0] W Q kp = F144 x0 Q kp W := by kernel_rfl
theorem F144_ok : okFn Tryz.f144 1 = true := by kernel_rfl
theorem F144_fn {x0 : Int} {Q : Value → World → Prop} {W : World} (h : F144 x0 Q (fun _ _ => False) W) : Gives Tryz.prog 144 #[.int .u32 x0] W Q := fn_of_vc (plan := []) mixed Tryz.func144 F144_ok (by rw [F144_eq]; exact h)
def F111 (s0 : ByteArray) (Q : Value → World → Prop) (kp : List PanicEntry → World → Prop) (W : World) : Prop :=
  Lp (fun s W_1 k =>
  AsI .u32 (s.getD 0 undef) fun x5 =>
  AsI .i64 (s.getD 1 undef) fun x6 =>
  AsI .u32 (s.getD 2 undef) fun x4 =>
  AsI .i64 (s.getD 3 undef) fun x7 =>
  AsI .u32 (s.getD 4 undef) fun x2 =>
  AsB (s.getD 5 undef) fun b3 =>
  AsI .i64 (s.getD 6 undef) fun x8 =>
  If (decide ((x8 : Int) < (ByteArray.size s0 : Int))) (Join (fun (x2_1 : Int) (b3_1 : Bool) (x4_1 : Int) (x5_1 : Int) (x6_1 : Int) (x7_1 : Int) (W_2 : World) =>
  k [.int .u32 x5_1, .int .i64 x6_1, .int .u32 x4_1, .int .i64 x7_1, .int .u32 x2_1, .bool b3_1, .int .i64 (IntKind.i64.wrap (x8 + 1))] W_2) fun (J : Int → Bool → Int → Int → Int → Int → World → Prop) =>
  IdxStr s0 x8 fun c18 =>
  If (((c18.toNat : Int) : Int) == 46) (If ((x7 : Int) == 0) (Q (.tuple #[.int .u32 0, .bool false]) W_1) (J x2 b3 0 (IntKind.u32.wrap ((IntKind.u32.wrap (256 * x5)) + x4)) (IntKind.i64.wrap (x6 + 1)) 0 W_1)) (Join (fun (b34 : Bool) (W_3 : World) =>
  Join (fun (b42 : Bool) (W_4 : World) =>
  Join (fun (b46 : Bool) (W_5 : World) =>
  Join (fun (b50 : Bool) (W_6 : World) =>
  If b50 (Q (.tuple #[.int .u32 0, .bool false]) W_6) (If (decide (((IntKind.u32.wrap ((IntKind.u32.wrap ((IntKind.u32.wrap (10 * x4)) + (IntKind.u32.wrap (c18.toNat : Int)))) - 48)) : Int) > 255)) (Q (.tuple #[.int .u32 0, .bool false]) W_6) (J x2 b3 (IntKind.u32.wrap ((IntKind.u32.wrap ((IntKind.u32.wrap (10 * x4)) + (IntKind.u32.wrap (c18.toNat : Int)))) - 48)) x5 x6 (IntKind.i64.wrap (x7 + 1)) W_6))) fun (J_4 : Bool → World → Prop) =>
  If b46 (J_4 true W_5) (J_4 (decide ((x6 : Int) > 3)) W_5)) fun (J_3 : Bool → World → Prop) =>
  If b42 (J_3 true W_4) (J_3 (decide ((x7 : Int) > 2)) W_4)) fun (J_2 : Bool → World → Prop) =>
  If b34 (J_2 true W_3) (Join (fun (b41 : Bool) (W_7 : World) =>
  J_2 b41 W_7) fun (J_5 : Bool → World → Prop) =>
  If (decide ((x7 : Int) > 0)) (J_5 ((x4 : Int) == 0) W_3) (J_5 false W_3))) fun (J_1 : Bool → World → Prop) =>
  If (decide (((c18.toNat : Int) : Int) < 48)) (J_1 true W_1) (J_1 (decide (((c18.toNat : Int) : Int) > 57)) W_1))) (Join (fun (b66 : Bool) (W_8 : World) =>
  If b66 (Q (.tuple #[.int .u32 0, .bool false]) W_8) (Q (.tuple #[.int .u32 (IntKind.u32.wrap ((IntKind.u32.wrap (256 * x5)) + x4)), .bool true]) W_8)) fun (J_6 : Bool → World → Prop) =>
  If ((x6 : Int) != 3) (J_6 true W_1) (J_6 ((x7 : Int) == 0) W_1))) [.int .u32 0, .int .i64 0, .int .u32 0, .int .i64 0, .int .u32 0, .bool false, .int .i64 0] W
theorem F111_eq (s0 : ByteArray) (Q : Value → World → Prop) (kp : List PanicEntry → World → Prop) (W : World) : vcFn Tryz.prog [] Tryz.f111 [.string s0] W Q kp = F111 s0 Q kp W := by kernel_rfl
theorem F111_ok : okFn Tryz.f111 1 = true := by kernel_rfl
theorem F111_fn {s0 : ByteArray} {Q : Value → World → Prop} {W : World} (h : F111 s0 Q (fun _ _ => False) W) : Gives Tryz.prog 111 #[.string s0] W Q := fn_of_vc (plan := []) mixed Tryz.func111 F111_ok (by rw [F111_eq]; exact h)
end Go.Proofs.YtngecegnlhmnlaaGreatDoor.Fs
namespace Go.Vc
open Go Go.RowKit
theorem heap_lt {W : World} {b : Nat} {o : Obj} (h : W.heap[b]? = some o) : b < W.heap.size := (Array.getElem?_eq_some_iff.1 h).1
theorem setBlk_same {W : World} {b : Nat} {o o' : Obj} (h : W.heap[b]? = some o') : (World.setBlk W b o).heap[b]? = some o := by
  simp only [World.setBlk]; exact Array.getElem?_setIfInBounds_self_of_lt (heap_lt h)
theorem setBlk_other {W : World} {b c : Nat} {o : Obj} (h : c ≠ b) : (World.setBlk W b o).heap[c]? = W.heap[c]? := by
  simp only [World.setBlk]; exact Array.getElem?_setIfInBounds_ne (Ne.symm h)
theorem setBlk_size {W : World} {b : Nat} {o : Obj} : (World.setBlk W b o).heap.size = W.heap.size := by simp [World.setBlk]
theorem alloc_same {W : World} {o : Obj} : (W.alloc o).heap[W.heap.size]? = some o := World.alloc_heap_new W o
theorem alloc_size {W : World} {o : Obj} : (W.alloc o).heap.size = W.heap.size + 1 := by simp
theorem belowAt {W W' : World} {b : Nat} {o : Obj} (h : Below W.heap.size W W') (ho : W.heap[b]? = some o) : W'.heap[b]? = some o := (h.block b (heap_lt ho)).trans ho
structure Fr (S : Nat → Prop) (W W' : World) : Prop where
  os : W'.os = W.os
  tape : W'.tape = W.tape
  output : W'.output = W.output
  size : W.heap.size ≤ W'.heap.size
  blk : ∀ b, b < W.heap.size → ¬ S b → W'.heap[b]? = W.heap[b]?
theorem Fr.refl (S : Nat → Prop) (W : World) : Fr S W W := ⟨rfl, rfl, rfl, Nat.le_refl _, fun _ _ _ => rfl⟩
theorem Fr.trans {S : Nat → Prop} {A B C : World} (h : Fr S A B) (k : Fr S B C) : Fr S A C :=
  ⟨k.os.trans h.os, k.tape.trans h.tape, k.output.trans h.output, Nat.le_trans h.size k.size, fun b hb hs => (k.blk b (Nat.lt_of_lt_of_le hb h.size) hs).trans (h.blk b hb hs)⟩
theorem Fr.trans' {S T : Nat → Prop} {A B C : World} (h : Fr S A B) (k : Fr T B C) (ht : ∀ b, T b → b < A.heap.size → S b) : Fr S A C :=
  ⟨k.os.trans h.os, k.tape.trans h.tape, k.output.trans h.output, Nat.le_trans h.size k.size, fun b hb hs => (k.blk b (Nat.lt_of_lt_of_le hb h.size) (fun hT => hs (ht b hT hb))).trans (h.blk b hb hs)⟩
theorem Fr.mono {S T : Nat → Prop} {A B : World} (h : Fr S A B) (hs : ∀ b, b < A.heap.size → S b → T b) : Fr T A B := ⟨h.os, h.tape, h.output, h.size, fun b hb ht => h.blk b hb (fun hS => ht (hs b hb hS))⟩
theorem Fr.below {W W' : World} (h : Fr (fun _ => False) W W') : Below W.heap.size W W' := ⟨h.os, h.tape, h.output, h.size, fun b hb => h.blk b hb (fun h => h)⟩
theorem frOf {S : Nat → Prop} {W W' : World} (h : Below W.heap.size W W') : Fr S W W' := ⟨h.os, h.tape, h.output, h.size, fun b hb _ => h.block b hb⟩
theorem Fr.setBlk {S : Nat → Prop} {b : Nat} (hs : S b) (W : World) (o : Obj) : Fr S W (World.setBlk W b o) :=
  ⟨rfl, rfl, rfl, by rw [setBlk_size]; exact Nat.le_refl _, fun c _ hc => setBlk_other (fun e => hc (e ▸ hs))⟩
theorem Fr.grown {S : Nat → Prop} {W W' : World} {row : Option Nat} (h : W.grownBy W' row) (hr : ∀ k, row = some k → S k) : Fr S W W' :=
  ⟨h.os, h.tape, h.output, h.size, fun b hb hs => h.block b hb (fun e => hs (hr b e.symm))⟩
theorem Fr.at {S : Nat → Prop} {W W' : World} {b : Nat} {o : Obj} (h : Fr S W W') (hs : ¬ S b) (ho : W.heap[b]? = some o) : W'.heap[b]? = some o := (h.blk b (heap_lt ho) hs).trans ho
theorem cell_of {W : World} {b off : Nat} {c : Array Value} {el : TypeId} {fz : Nat × Nat} {u : Value} (h : W.heap[b]? = some (.cells c el fz)) (hc : c[off]? = some u) : W.cell? ⟨b, off, none⟩ = some u := by
  simp [World.cell?, h, hc]
theorem add_at (b o n : Nat) : (⟨b, o, none⟩ : Addr).add n = ⟨b, o + n, none⟩ := by
  unfold Addr.add
  split
  · rename_i h; subst h; rfl
  · rfl
theorem Ld1.mk {W : World} {b off : Nat} {c : Array Value} {el : TypeId} {fz : Nat × Nat} {u : Value} {k : Value → Prop} (h : W.heap[b]? = some (.cells c el fz)) (hc : c[off]? = some u) (hk : k u) : Ld1 W ⟨b, off, none⟩ k :=
  ⟨u, cell_of h hc, hk⟩
theorem row_of {W : World} {b off : Nat} {c : Array Value} {el : TypeId} {fz : Nat × Nat} {cs : List Value} (h : W.heap[b]? = some (.cells c el fz)) (hc : (c.toList.drop off).take cs.length = cs) : Row W ⟨b, off, none⟩ cs := by
  intro i u hi
  rw [add_at]
  refine cell_of h ?_
  have hlt : i < cs.length := (List.getElem?_eq_some_iff.1 hi).1
  rw [← hc, List.getElem?_take_of_lt hlt, List.getElem?_drop] at hi
  simpa using hi
theorem LdNC.mk {W : World} {b off n : Nat} {c : Array Value} {el : TypeId} {fz : Nat × Nat} {cs : List Value} {k : List Value → Prop} (h : W.heap[b]? = some (.cells c el fz)) (hn : cs.length = n) (hc : (c.toList.drop off).take n = cs) (hk : k cs) : LdNC W ⟨b, off, none⟩ n k :=
  ⟨cs, hn, row_of h (by rw [hn]; exact hc), hk⟩
theorem StN.mk {W : World} {b off n : Nat} {c : Array Value} {el : TypeId} {fz : Nat × Nat} {cs : Array Value} {k : Prop} (h : W.heap[b]? = some (.cells c el fz)) (hn : cs.size = n) (hc : (c.toList.drop off).take n = cs.toList) (hk : k) : StN W ⟨b, off, none⟩ cs n k :=
  ⟨⟨hn, row_of h (by rw [Array.length_toList, hn]; exact hc)⟩, hk⟩
theorem StL.mk {W : World} {b off : Nat} {c : Array Value} {el : TypeId} {fz : Nat × Nat} {u : Value} {k : Prop} (h : W.heap[b]? = some (.cells c el fz)) (hc : c[off]? = some u) (hk : k) : StL W ⟨b, off, none⟩ u k := ⟨cell_of h hc, hk⟩
theorem StV.mkz {W : World} {b off sz : Nat} {c : Array Value} {el : TypeId} {fz : Nat × Nat} {v : Value} {k : World → Prop} (h : W.heap[b]? = some (.cells c el fz)) (hz : fz.2 ≤ off ∨ off + sz ≤ fz.1) (hs : v.cells.size = sz) (hle : off + sz ≤ c.size) (h1 : v.cells.toList.all oneC = true)
    (hk : k (World.setBlk W b (.cells (c.toList.take off ++ v.cells.toList ++ c.toList.drop (off + sz)).toArray el fz))) : StV sz W ⟨b, off, none⟩ v k :=
  ⟨hs, c, el, fz, h, rfl, by simpa [hs] using hle, h1, by simpa [hs] using hz, by simpa [hs] using hk⟩
theorem StV.mk {W : World} {b off sz : Nat} {c : Array Value} {el : TypeId} {v : Value} {k : World → Prop} (h : W.heap[b]? = some (.cells c el (0, 0))) (hs : v.cells.size = sz) (hle : off + sz ≤ c.size) (h1 : v.cells.toList.all oneC = true)
    (hk : k (World.setBlk W b (.cells (c.toList.take off ++ v.cells.toList ++ c.toList.drop (off + sz)).toArray el (0, 0)))) : StV sz W ⟨b, off, none⟩ v k :=
  StV.mkz h (.inl (Nat.zero_le _)) hs hle h1 hk
theorem StV.one {W : World} {b off : Nat} {c : Array Value} {el : TypeId} {v : Value} {k : World → Prop} (h : W.heap[b]? = some (.cells c el (0, 0))) (hv : v.cells = #[v]) (hle : off < c.size) (h1 : oneC v = true)
    (hk : k (World.setBlk W b (.cells (c.setIfInBounds off v) el (0, 0)))) : StV 1 W ⟨b, off, none⟩ v k := by
  refine StV.mk h (by rw [hv]; rfl) hle (by rw [hv]; simp [h1]) ?_
  have : (c.toList.take off ++ v.cells.toList ++ c.toList.drop (off + 1)).toArray = c.setIfInBounds off v := by
    rw [hv]
    apply Array.ext'
    rw [Array.toList_setIfInBounds]
    simp only [List.append_assoc]
    rw [List.set_eq_take_append_cons_drop]
    simp [hle]
  rw [this]; exact hk
theorem CallK.mk {P : Program} {f : FuncId} {args : Array Value} {W : World} {kp : List PanicEntry → World → Prop} {Q k : Value → World → Prop} (h : Gives P f args W Q) (hk : ∀ v W', Q v W' → k v W') : CallK P f args W kp k := Call.of h hk
theorem CallQ.mk {P : Program} {f : FuncId} {args : Array Value} {W : World} {v : Value} {k : Value → Prop} (h : ∀ W', Below W.heap.size W W' → Gives P f args W' fun u W'' => u = v ∧ Below W'.heap.size W' W'') (hk : k v) : CallQ P f args W k := ⟨v, h, hk⟩
inductive Ok (P : Program) (f : FuncId) : Prop where | mk (h : callOk P f = true)
theorem Ok.get {P : Program} {f : FuncId} (h : Ok P f) : callOk P f = true := by cases h; assumption
theorem callSem_func {P : Program} {f : FuncId} {lb rb args : Array Value} (hc : callOk P f = true) (W : World) : (callSem (.func (.func f) lb rb) args).run P W = .ok (.enter f (lb ++ args ++ rb)) W := by
  simp only [callSem, Deferred.ofValue, Sem.run_bind, Sem.run_pure, Result.andThen_ok, invoke]
  exact run_callFunc hc _ _
theorem YieldK.func {P : Program} {f : FuncId} {lb rb args : Array Value} {W : World} {kp : List PanicEntry → World → Prop} {Q k : Value → World → Prop} (hc : Ok P f) (h : Gives P f (lb ++ args ++ rb) W Q) (hk : ∀ v W', Q v W' → k v W') :
    YieldK P (callSem (.func (.func f) lb rb) args) W kp k := by
  unfold YieldK; rw [Yield_iff]; unfold YieldR
  rw [callSem_func hc.get]
  exact Call.of h hk
end Go.Vc
namespace Go.Vc
open Go Go.RowKit
theorem If.pos {b : Bool} {x y : Prop} (h : b = true) (k : x) : If b x y := by subst h; exact k
theorem If.neg {b : Bool} {x y : Prop} (h : b = false) (k : y) : If b x y := by subst h; exact k
theorem If.split {b : Bool} {x y : Prop} (h : b = true → x) (k : b = false → y) : If b x y := by cases b with | true => exact h rfl | false => exact k rfl
theorem If.dec {p : Prop} [Decidable p] {x y : Prop} (h : p → x) (k : ¬ p → y) : If (decide p) x y := by
  by_cases hp : p
  · rw [decide_eq_true hp]; exact h hp
  · rw [decide_eq_false hp]; exact k hp
theorem If.beq {a b : Int} {x y : Prop} (h : a = b → x) (k : a ≠ b → y) : If (a == b) x y := by
  by_cases hp : a = b
  · subst hp; rw [beq_self_eq_true]; exact h rfl
  · rw [beq_eq_false_iff_ne.2 hp]; exact k hp
theorem If.bne {a b : Int} {x y : Prop} (h : a ≠ b → x) (k : a = b → y) : If (a != b) x y := by
  by_cases hp : a = b
  · subst hp; rw [bne_self_eq_false]; exact k rfl
  · rw [bne_iff_ne.2 hp]; exact h hp
theorem AsL.mk {v : Value} {a : Option Addr} {n c : Nat} {k : Option Addr → Nat → Nat → Prop} (h : v = .slice a n c) (hk : k a n c) : AsL v k := ⟨a, n, c, h, hk⟩
theorem AsI.mk {ik : IntKind} {x : Int} {k : Int → Prop} (hk : k x) : AsI ik (.int ik x) k := ⟨x, rfl, hk⟩
theorem AsB.mk {x : Bool} {k : Bool → Prop} (hk : k x) : AsB (.bool x) k := ⟨x, rfl, hk⟩
theorem AsS.mk {x : ByteArray} {k : ByteArray → Prop} (hk : k x) : AsS (.string x) k := ⟨x, rfl, hk⟩
theorem AsT2.mk {x y : Value} {k : Value → Value → Prop} (hk : k x y) : AsT2 (.tuple #[x, y]) k := ⟨x, y, rfl, hk⟩
theorem AsT3.mk {x y z : Value} {k : Value → Value → Value → Prop} (hk : k x y z) : AsT3 (.tuple #[x, y, z]) k := ⟨x, y, z, rfl, hk⟩
theorem SlB.mk {len cap : Nat} {lo hi : Option Int} {k : Nat → Nat → Prop} (l h : Nat) (h1 : isLo lo l) (h2 : isHi hi len h) (h3 : l ≤ h) (h4 : h ≤ cap) (hk : k l h) : SlB len cap lo hi k := ⟨l, h, h1, h2, h3, h4, hk⟩
theorem IdxS.mk {b : Addr} {len : Nat} {i : Int} {j sz : Nat} {k : Addr → Prop} (hi : i = (j : Int)) (hj : j < len) (hk : k (b.add (j * sz))) : IdxS (some b) len i sz k := by
  subst hi
  exact ⟨b, rfl, by omega, by omega, by simpa using hk⟩
theorem wrap_i64 {x : Int} (h1 : -9223372036854775808 ≤ x) (h2 : x ≤ 9223372036854775807) : IntKind.i64.wrap x = x := by
  have e : IntKind.i64.wrap x = if x % 18446744073709551616 ≥ 9223372036854775808 then x % 18446744073709551616 - 18446744073709551616 else x % 18446744073709551616 := by
    simp [IntKind.wrap, IntKind.signed, IntKind.bits]
  rw [e]
  split <;> omega
theorem NewA.mk {cells : Array Value} {t : TypeId} {W : World} {k : Addr → World → Prop} (h : ∀ b W', W'.heap[b]? = some (.cells cells t (0, 0)) → b = W.heap.size → W'.heap.size = W.heap.size + 1 → Below W.heap.size W W' → k ⟨b, 0, none⟩ W') : NewA cells t W k :=
  h _ _ alloc_same rfl alloc_size ((Below.refl _ W).alloc (Nat.le_refl _) _)
theorem NewSC.mk {tot : Nat} {zero : List Value} {ps : List (Nat × Nat × Value)} {t : TypeId} {W : World} {k : Addr → World → Prop} (hp : partsOk tot ps) {cs : Array Value} (hc : (splice zero ps).toArray = cs)
    (h : ∀ b W', W'.heap[b]? = some (.cells cs t (0, 0)) → b = W.heap.size → W'.heap.size = W.heap.size + 1 → Below W.heap.size W W' → k ⟨b, 0, none⟩ W') : NewSC tot zero ps t W k := by
  subst hc
  exact ⟨hp, h _ _ alloc_same rfl alloc_size ((Below.refl _ W).alloc (Nat.le_refl _) _)⟩
theorem StV.to {W : World} {b off sz : Nat} {c : Array Value} {el : TypeId} {v : Value} {k : World → Prop} (h : W.heap[b]? = some (.cells c el (0, 0))) (hs : v.cells.size = sz) (hle : off + sz ≤ c.size) (h1 : v.cells.toList.all oneC = true)
    {cs : Array Value} (hcs : (c.toList.take off ++ v.cells.toList ++ c.toList.drop (off + sz)).toArray = cs)
    (hk : ∀ W', W'.heap[b]? = some (.cells cs el (0, 0)) → W'.heap.size = W.heap.size → Fr (fun x => x = b) W W' → k W') : StV sz W ⟨b, off, none⟩ v k := by
  subst hcs
  exact StV.mk h hs hle h1 (hk _ (setBlk_same h) setBlk_size (Fr.setBlk (S := fun x => x = b) rfl _ _))
theorem StV.to1 {W : World} {b off : Nat} {c : Array Value} {el : TypeId} {v : Value} {k : World → Prop} (h : W.heap[b]? = some (.cells c el (0, 0))) (hv : v.cells = #[v]) (hle : off < c.size) (h1 : oneC v = true)
    (hk : ∀ W', W'.heap[b]? = some (.cells (c.setIfInBounds off v) el (0, 0)) → W'.heap.size = W.heap.size → Fr (fun x => x = b) W W' → k W') : StV 1 W ⟨b, off, none⟩ v k :=
  StV.one h hv hle h1 (hk _ (setBlk_same h) setBlk_size (Fr.setBlk (S := fun x => x = b) rfl _ _))
theorem Ld1.ad {W : World} {b o n : Nat} {c : Array Value} {el : TypeId} {fz : Nat × Nat} {u : Value} {k : Value → Prop} (h : W.heap[b]? = some (.cells c el fz)) (hc : c[o + n]? = some u) (hk : k u) : Ld1 W (Addr.add ⟨b, o, none⟩ n) k := by rw [add_at]; exact Ld1.mk h hc hk
theorem StL.ad {W : World} {b o n : Nat} {c : Array Value} {el : TypeId} {fz : Nat × Nat} {u : Value} {k : Prop} (h : W.heap[b]? = some (.cells c el fz)) (hc : c[o + n]? = some u) (hk : k) : StL W (Addr.add ⟨b, o, none⟩ n) u k := by rw [add_at]; exact StL.mk h hc hk
theorem LdNC.ad {W : World} {b o j n : Nat} {c : Array Value} {el : TypeId} {fz : Nat × Nat} {cs : List Value} {k : List Value → Prop} (h : W.heap[b]? = some (.cells c el fz)) (hn : cs.length = n) (hc : (c.toList.drop (o + j)).take n = cs) (hk : k cs) : LdNC W (Addr.add ⟨b, o, none⟩ j) n k := by rw [add_at]; exact LdNC.mk h hn hc hk
theorem StV.ad {W : World} {b o j sz : Nat} {c : Array Value} {el : TypeId} {v : Value} {k : World → Prop} (h : W.heap[b]? = some (.cells c el (0, 0))) (hs : v.cells.size = sz) (hle : o + j + sz ≤ c.size) (h1 : v.cells.toList.all oneC = true)
    {cs : Array Value} (hcs : (c.toList.take (o + j) ++ v.cells.toList ++ c.toList.drop (o + j + sz)).toArray = cs)
    (hk : ∀ W', W'.heap[b]? = some (.cells cs el (0, 0)) → W'.heap.size = W.heap.size → Fr (fun x => x = b) W W' → k W') : StV sz W (Addr.add ⟨b, o, none⟩ j) v k := by rw [add_at]; exact StV.to h hs hle h1 hcs hk
theorem StV.ad1 {W : World} {b o j : Nat} {c : Array Value} {el : TypeId} {v : Value} {k : World → Prop} (h : W.heap[b]? = some (.cells c el (0, 0))) (hv : v.cells = #[v]) (hle : o + j < c.size) (h1 : oneC v = true)
    (hk : ∀ W', W'.heap[b]? = some (.cells (c.setIfInBounds (o + j) v) el (0, 0)) → W'.heap.size = W.heap.size → Fr (fun x => x = b) W W' → k W') : StV 1 W (Addr.add ⟨b, o, none⟩ j) v k := by rw [add_at]; exact StV.to1 h hv hle h1 hk
section flat
variable {α : Type} {enc : α → List Value} {size : Nat}
theorem flat_len (he : ∀ a, (enc a).length = size) : ∀ l : List α, (l.flatMap enc).length = l.length * size
  | [] => by simp
  | x :: l => by rw [List.flatMap_cons, List.length_append, he, flat_len he l, List.length_cons, Nat.add_mul]; omega
theorem flat_drop (he : ∀ a, (enc a).length = size) : ∀ (l : List α) (i : Nat), (l.flatMap enc).drop (i * size) = (l.drop i).flatMap enc
  | [], i => by simp
  | x :: l, 0 => by simp
  | x :: l, i + 1 => by
    rw [List.flatMap_cons, Nat.add_mul, Nat.one_mul, List.drop_append, he, List.drop_of_length_le (by rw [he]; omega), List.nil_append, show i * size + size - size = i * size by omega, flat_drop he l i, List.drop_succ_cons]
theorem flat_take (he : ∀ a, (enc a).length = size) : ∀ (l : List α) (i : Nat), (l.flatMap enc).take (i * size) = (l.take i).flatMap enc
  | [], i => by simp
  | x :: l, 0 => by simp
  | x :: l, i + 1 => by
    rw [List.flatMap_cons, Nat.add_mul, Nat.one_mul, List.take_succ_cons, List.flatMap_cons, List.take_append, he, List.take_of_length_le (by rw [he]; omega), show i * size + size - size = i * size by omega, flat_take he l i]
theorem flat_get (he : ∀ a, (enc a).length = size) {l : List α} {i : Nat} {x : α} (h : l[i]? = some x) : ((l.flatMap enc).drop (i * size)).take size = enc x := by
  rw [flat_drop he]
  obtain ⟨hlt, rfl⟩ := List.getElem?_eq_some_iff.1 h
  rw [List.drop_eq_getElem_cons hlt, List.flatMap_cons, List.take_append, he, Nat.sub_self, List.take_zero, List.append_nil, List.take_of_length_le (by rw [he]; exact Nat.le_refl _)]
theorem flat_set (he : ∀ a, (enc a).length = size) {l : List α} {i : Nat} (h : i < l.length) (x : α) : (l.flatMap enc).take (i * size) ++ enc x ++ (l.flatMap enc).drop (i * size + size) = (l.set i x).flatMap enc := by
  rw [flat_take he, show i * size + size = (i + 1) * size by rw [Nat.add_mul]; omega, flat_drop he, List.set_eq_take_append_cons_drop, if_pos h, List.flatMap_append, List.flatMap_cons, List.append_assoc]
def SlR (W : World) (el : TypeId) (size : Nat) (enc : α → List Value) (v : Value) (l : List α) : Prop := W.ownsRow 0 el size v l.length (l.flatMap enc)
theorem SlR.of_heap {W W' : World} {el : TypeId} {v : Value} {l : List α} (h : SlR W el size enc v l) (hg : ∀ g, v.ownBlock = some g → W'.heap[g]? = W.heap[g]?) : SlR W' el size enc v l := by
  refine ⟨h.1, ?_⟩
  rcases h.2 with h1 | ⟨g, cap, cur, h1, h2, h3, h4⟩
  · exact .inl h1
  · exact .inr ⟨g, cap, cur, h1, h2, (hg g (by rw [h1]; rfl)).trans h3, h4⟩
theorem SlR.nil (W : World) (el : TypeId) : SlR W el size enc (.slice none 0 0) ([] : List α) := ⟨by simp, .inl ⟨rfl, rfl⟩⟩
theorem SlR.lt {W : World} {el : TypeId} {v : Value} {l : List α} (h : SlR W el size enc v l) {g : Nat} (hg : v.ownBlock = some g) : g < W.heap.size := (World.ownsRow.lt h g hg).2
theorem SlR.len {W : World} {el : TypeId} {a : Option Addr} {n c : Nat} {l : List α} (h : SlR W el size enc (.slice a n c) l) : n = l.length := by
  rcases h.2 with ⟨h1, h2⟩ | ⟨g, cap, cur, h1, _⟩
  · cases h1; exact h2.symm
  · cases h1; rfl
theorem SlR.shape {W : World} {el : TypeId} {v : Value} {l : List α} (h : SlR W el size enc v l) : ∃ a c, v = .slice a l.length c := by
  rcases h.2 with ⟨h1, h2⟩ | ⟨g, cap, cur, h1, _⟩
  · exact ⟨none, 0, by rw [h1, h2]⟩
  · exact ⟨_, _, h1⟩
theorem SlR.cells {W : World} {el : TypeId} {v : Value} {l : List α} (h : SlR W el size enc v l) (hl : l ≠ []) :
    ∃ g cap cur, v = .slice (some ⟨g, 0, none⟩) l.length cap ∧ W.heap[g]? = some (.cells cur el (0, 0)) ∧ l.length ≤ cap ∧ cap ≤ maxLen ∧ cur.size = cap * size ∧ cur.toList.take (l.length * size) = l.flatMap enc := by
  rcases h.2 with ⟨_, h2⟩ | ⟨g, cap, cur, h1, _, h3, h4⟩
  · exact absurd (List.eq_nil_of_length_eq_zero h2) hl
  · exact ⟨g, cap, cur, h1, h3, h4⟩
theorem SlR.mk {W : World} {el : TypeId} {g cap : Nat} {cur : Array Value} {l : List α} (he : ∀ a, (enc a).length = size) (hg : W.heap[g]? = some (.cells cur el (0, 0))) (h1 : l.length ≤ cap) (h2 : cap ≤ maxLen) (h3 : cur.size = cap * size) (h4 : cur.toList.take (l.length * size) = l.flatMap enc) :
    SlR W el size enc (.slice (some ⟨g, 0, none⟩) l.length cap) l := ⟨flat_len he l, .inr ⟨g, cap, cur, rfl, Nat.zero_le _, hg, h1, h2, h3, h4⟩⟩
theorem row_set (he : ∀ a, (enc a).length = size) {l : List α} {cap : Nat} {cur : Array Value} {i : Nat} (x : α) (h1 : l.length ≤ cap) (h3 : cur.size = cap * size) (h4 : cur.toList.take (l.length * size) = l.flatMap enc) (hi : i < l.length) :
    ((cur.toList.take (i * size) ++ enc x ++ cur.toList.drop (i * size + size)).toArray).size = cap * size ∧
    ((cur.toList.take (i * size) ++ enc x ++ cur.toList.drop (i * size + size)).toArray).toList.take ((l.set i x).length * size) = (l.set i x).flatMap enc := by
  have hle : (i + 1) * size ≤ l.length * size := Nat.mul_le_mul_right _ hi
  have hle2 : l.length * size ≤ cap * size := Nat.mul_le_mul_right _ h1
  rw [Nat.add_mul, Nat.one_mul] at hle
  have hcl : cur.toList.length = cap * size := by rw [Array.length_toList, h3]
  refine ⟨?_, ?_⟩
  · simp only [List.size_toArray, List.length_append, List.length_take, List.length_drop, hcl, he]
    omega
  · rw [← flat_set he hi, List.length_set, ← h4]
    have e1 : (cur.toList.take (l.length * size)).take (i * size) = cur.toList.take (i * size) := by rw [List.take_take]; congr 1; omega
    rw [e1, List.drop_take]
    have hl1 : (cur.toList.take (i * size) ++ enc x).length = i * size + size := by rw [List.length_append, he, List.length_take, hcl]; omega
    rw [List.take_append, hl1, List.take_of_length_le (by rw [hl1]; omega)]
theorem SlR.append {P : Program} {W : World} {t ty el : TypeId} {i : TypeInfo} {z : Value} {bytes : Nat} (he : ∀ a, (enc a).length = size) (h1 : ∀ a, ∀ u ∈ enc a, u.oneCell' = true) (ht : P.underlying t = some (.slice el)) (hi : P.info? el = some i) (hz : i.zero = some z)
    (hsize : i.size = size) (hby : i.bytes = bytes) (hzs : z.cells.size = size) (hsz : 0 < size) {v : Value} {l ys : List α} (h : SlR W el size enc v l) {a : Addr} {c : Nat} (hnews : ∀ j u, (ys.flatMap enc)[j]? = some u → W.cell? (a.add j) = some u)
    (hb : (l.length + ys.length) * bytes ≤ 140737488355328) (hm : l.length + ys.length ≤ maxLen) :
    ∃ v' W', (Builtin.append_ #[t, t] ty #[v, .slice (some a) ys.length c]).run P W = .ok v' W' ∧ SlR W' el size enc v' (l ++ ys) ∧ W.grownBy W' v.ownBlock ∧ (v'.ownBlock = v.ownBlock ∨ v'.ownBlock = some W.heap.size) := by
  obtain ⟨v', W', h2, h3, h4, _, h5⟩ := run_append_own_at (P := P) W 0 t ty el i z size bytes ht hi hz hsize hby hzs hsz v l.length (l.flatMap enc) h a ys.length c (ys.flatMap enc) (flat_len he ys) hnews
    (fun u hu => by obtain ⟨x, _, hx⟩ := List.mem_flatMap.1 hu; exact h1 x u hx) hm hb (Nat.zero_le _)
  refine ⟨v', W', h2, ?_, h4, h5⟩
  unfold SlR
  rw [List.flatMap_append, List.length_append]
  exact h3
end flat
theorem cells_row {W : World} {b : Nat} {cs : List Value} {el : TypeId} {fz : Nat × Nat} (h : W.heap[b]? = some (.cells cs.toArray el fz)) : ∀ j u, cs[j]? = some u → W.cell? ((⟨b, 0, none⟩ : Addr).add j) = some u := fun j u hj => by
  rw [add_at, Nat.zero_add]; exact cell_of h (by simpa using hj)
end Go.Vc
namespace Go.Vc
open Go Go.RowKit
def RdL {α : Type} (W : World) (_ : Nat) (enc : α → List Value) (a : Option Addr) (l : List α) : Prop := (a = none → l = []) ∧ ∀ p, a = some p → Row W p (l.flatMap enc)
theorem row_cell {W : World} {p : Addr} {cs : List Value} (h : Row W p cs) {i : Nat} {u : Value} (hi : cs[i]? = some u) : p.block < W.heap.size := by
  have := h i u hi
  have hb : (p.add i).block = p.block := by unfold Addr.add; split <;> rfl
  rw [← hb]
  unfold World.cell? at this
  cases ho : W.heap[(p.add i).block]? with
  | none => rw [ho] at this; cases this
  | some o => exact heap_lt ho
theorem row_of_block {W W' : World} {p : Addr} {cs : List Value} (h : Row W p cs) (hb : cs ≠ [] → W'.heap[p.block]? = W.heap[p.block]?) : Row W' p cs := fun i u hi => by
  have hb' : (p.add i).block = p.block := by unfold Addr.add; split <;> rfl
  rw [World.cell?_of_block (w := W) (by rw [hb']; exact hb (by intro e; subst e; simp at hi))]
  exact h i u hi
theorem row_sub {W : World} {p : Addr} {cs : List Value} (h : Row W p cs) (i n : Nat) : Row W (p.add i) ((cs.drop i).take n) := fun j u hj => by
  rw [Deep.add_add]
  have hlt : j < n := by have := (List.getElem?_eq_some_iff.1 hj).1; simp at this; omega
  rw [List.getElem?_take_of_lt hlt, List.getElem?_drop] at hj
  exact h _ _ hj
section
variable {α : Type} {W : World} {size : Nat} {enc : α → List Value} {a : Option Addr} {l : List α}
theorem RdL.bel {W' : World} (h : RdL W size enc a l) (hb : Below W.heap.size W W') : RdL W' size enc a l := ⟨h.1, fun p hp => row_of_block (h.2 p hp) fun hne => by
  obtain ⟨u, hu⟩ : ∃ u, (l.flatMap enc)[0]? = some u := by cases hl : l.flatMap enc with | nil => exact absurd hl hne | cons u r => exact ⟨u, rfl⟩
  exact hb.block _ (row_cell (h.2 p hp) hu)⟩
theorem RdL.fr {S : Nat → Prop} {W' : World} (h : RdL W size enc a l) (hf : Fr S W W') (hs : ∀ p, a = some p → p.block < W.heap.size → ¬ S p.block) : RdL W' size enc a l := ⟨h.1, fun p hp => row_of_block (h.2 p hp) fun hne => by
  obtain ⟨u, hu⟩ : ∃ u, (l.flatMap enc)[0]? = some u := by cases hl : l.flatMap enc with | nil => exact absurd hl hne | cons u r => exact ⟨u, rfl⟩
  exact hf.blk _ (row_cell (h.2 p hp) hu) (hs p hp (row_cell (h.2 p hp) hu))⟩
theorem RdL.row (he : ∀ x, (enc x).length = size) (h : RdL W size enc a l) {j : Nat} {x : α} (hx : l[j]? = some x) : ∃ p, a = some p ∧ Row W (p.add (j * size)) (enc x) := by
  cases ha : a with
  | none => have := h.1 ha; subst this; simp at hx
  | some p =>
    refine ⟨p, rfl, ?_⟩
    have := row_sub (h.2 p ha) (j * size) size
    rwa [flat_get he hx] at this
theorem RdL.get (he : ∀ x, (enc x).length = size) (h : RdL W size enc a l) {n : Nat} {i : Int} {j : Nat} {x : α} (hn : n = l.length) (hi : i = (j : Int)) (hx : l[j]? = some x) {K : List Value → Prop} (hk : K (enc x)) : IdxS a n i size fun q => LdNC W q size fun l => K l := by
  obtain ⟨p, rfl, hr⟩ := h.row he hx
  subst hn
  exact IdxS.mk hi (List.getElem?_eq_some_iff.1 hx).1 ⟨_, he x, hr, hk⟩
theorem RdL.get0 (he : ∀ x, (enc x).length = size) (h : RdL W size enc a l) {n : Nat} {i : Int} {j : Nat} {x : α} (hn : n = l.length) (hi : i = (j : Int)) (hx : l[j]? = some x) {u : Value} (hu : (enc x)[0]? = some u) {K : Value → Prop} (hk : K u) : IdxS a n i size fun q => Ld1 W q K := by
  obtain ⟨p, rfl, hr⟩ := h.row he hx
  subst hn
  refine IdxS.mk hi (List.getElem?_eq_some_iff.1 hx).1 ⟨_, ?_, hk⟩
  have := hr _ _ hu
  simpa [Addr.add] using this
theorem SlR.rd {el : TypeId} {n c : Nat} (h : SlR W el size enc (.slice a n c) l) : RdL W size enc a l := by
  by_cases hl : l = []
  · subst hl; exact ⟨fun _ => rfl, fun p _ i u hi => by simp at hi⟩
  · obtain ⟨g, cap, cur, hv, hg, h1, h2, h3, h4⟩ := h.cells hl
    cases hv
    refine ⟨fun h => by (cases h), fun p hp => ?_⟩
    cases hp
    refine row_of hg ?_
    rw [List.drop_zero, h.1]
    exact h4
theorem SlR.cap {el : TypeId} {n c : Nat} (h : SlR W el size enc (.slice a n c) l) : l.length ≤ c := by
  rcases h.2 with ⟨e, h⟩ | ⟨g, cap, cur, e, _, _, h, _⟩
  · cases e; omega
  · cases e; exact h
theorem SlR.fr {el : TypeId} {v : Value} {S : Nat → Prop} {W' : World} (h : SlR W el size enc v l) (hf : Fr S W W') (hs : ∀ g, v.ownBlock = some g → ¬ S g) : SlR W' el size enc v l := h.of_heap fun g hg => hf.blk g (h.lt hg) (hs g hg)
theorem RdL.from (he : ∀ x, (enc x).length = size) (h : RdL W size enc a l) {c i : Nat} (hc : l.length ≤ c) (hi : i ≤ l.length) : RdL W size enc (if c = i then a else a.map fun z => z.add (i * size)) (l.drop i) := by
  by_cases hci : c = i
  · rw [if_pos hci]
    have : l.drop i = [] := List.drop_eq_nil_of_le (by omega)
    rw [this]
    exact ⟨fun _ => rfl, fun p _ i u hi => by simp at hi⟩
  · rw [if_neg hci]
    refine ⟨fun ha => ?_, fun p hp => ?_⟩
    · cases a with
      | none => rw [h.1 rfl]; simp
      | some p => cases ha
    · cases a with
      | none => cases hp
      | some p0 =>
        cases hp
        have := row_sub (h.2 p0 rfl) (i * size) (l.flatMap enc).length
        rwa [List.take_of_length_le (by rw [List.length_drop]; omega), flat_drop he] at this
theorem SlR.appendR {P : Program} {t ty el : TypeId} {i : TypeInfo} {z : Value} {bytes : Nat} (he : ∀ a, (enc a).length = size) (h1 : ∀ a, ∀ u ∈ enc a, u.oneCell' = true) (ht : P.underlying t = some (.slice el)) (hi : P.info? el = some i)
    (hz : i.zero = some z) (hsize : i.size = size) (hby : i.bytes = bytes) (hzs : z.cells.size = size) (hsz : 0 < size) {v : Value} {ys : List α} (h : SlR W el size enc v l) {n c : Nat} (hr : RdL W size enc a ys) (hn : n = ys.length)
    (hb : (l.length + ys.length) * bytes ≤ 140737488355328) (hm : l.length + ys.length ≤ maxLen) :
    ∃ v' W', (Builtin.append_ #[t, t] ty #[v, .slice a n c]).run P W = .ok v' W' ∧ SlR W' el size enc v' (l ++ ys) ∧ W.grownBy W' v.ownBlock ∧ (v'.ownBlock = v.ownBlock ∨ v'.ownBlock = some W.heap.size) := by
  subst hn
  cases ha : a with
  | some p =>
    subst ha
    exact SlR.append he h1 ht hi hz hsize hby hzs hsz h (hr.2 p rfl) hb hm
  | none =>
    have := hr.1 ha
    subst this
    refine ⟨v, W, ?_, by simpa using h, ⟨rfl, rfl, rfl, Nat.le_refl _, fun _ _ _ => rfl⟩, .inl rfl⟩
    rcases h.2 with ⟨rfl, hn⟩ | ⟨g, cap, cur, rfl, _, hc, hnc, hm', hs, hp⟩
    · simp [Builtin.append_, run_underlying' ht, sizeOf, typeInfo, hi, Builtin.lenOf, Builtin.firstCells]
    · simp [Builtin.append_, run_underlying' ht, sizeOf, typeInfo, hi, Builtin.lenOf, Builtin.firstCells, hnc, storeCells]
end
inductive Lf where | int (k : IntKind) | bool | str
def Lf.ok : Lf → Value → Prop
  | .int k, v => ∃ n, v = .int k n ∧ (Lit.int k n).wf = true
  | .bool, v => ∃ b, v = .bool b
  | .str, v => ∃ s : ByteArray, v = .string s ∧ s.size ≤ maxLen
def Typed : List Lf → List Value → Prop
  | [], [] => True
  | s :: ss, v :: vs => s.ok v ∧ Typed ss vs
  | _, _ => False
theorem Typed.append : ∀ {s : List Lf} {a : List Value} {s' : List Lf} {b : List Value}, Typed s a → Typed s' b → Typed (s ++ s') (a ++ b)
  | [], [], _, _, _, h => h
  | _ :: _, _ :: _, _, _, h, k => ⟨h.1, h.2.append k⟩
  | [], _ :: _, _, _, h, _ => h.elim
  | _ :: _, [], _, _, h, _ => h.elim
theorem Typed.len : ∀ {s : List Lf} {a : List Value}, Typed s a → a.length = s.length
  | [], [], _ => rfl
  | _ :: _, _ :: _, h => by simp [h.2.len]
  | [], _ :: _, h => h.elim
  | _ :: _, [], h => h.elim
def shpF (P : Program) (f : TypeId → Option (List Lf)) : List Field → Nat → Option (List Lf)
  | [], _ => some []
  | x :: r, off => match f x.type with
    | none => none
    | some s => match Nat.beq x.offset off && Nat.beq (P.cellsOf x.type) s.length with
      | false => none
      | true => match shpF P f r (off + s.length) with
        | none => none
        | some s' => some (s ++ s')
def rep (s : List Lf) : Nat → List Lf
  | 0 => []
  | n + 1 => s ++ rep s n
def shp (P : Program) : Nat → TypeId → Option (List Lf)
  | 0, _ => none
  | n + 1, t => match P.underlying t with
    | some (.int k) => some [.int k]
    | some .bool => some [.bool]
    | some .string => some [.str]
    | some (.struct fs) => (match shpF P (shp P n) fs.toList 0 with
      | none => none
      | some s => match Nat.beq (P.cellsOf t) s.length with | true => some s | false => none)
    | some (.array m e) => (match shp P n e with
      | none => none
      | some s => match Nat.beq (P.cellsOf e) s.length && Nat.beq (P.cellsOf t) (m * s.length) with | true => some (rep s m) | false => none)
    | _ => none
theorem rep_len (s : List Lf) : ∀ n, (rep s n).length = n * s.length
  | 0 => by simp [rep]
  | n + 1 => by rw [rep, List.length_append, rep_len s n, Nat.add_mul]; omega
section
variable {H : Type} {enc : TypeId × Value → H} {P : Program} {w : World} {base : Nat} {spare : Nat → Bool} {held : Bool}
theorem typedF {f : TypeId → Option (List Lf)} {cs : List Value} (ih : ∀ t s, f t = some s → ∀ fuel cs x, DataW.trod enc P w base spare held fuel t cs = some x → Typed s cs) :
    ∀ (r : List Field) (off : Nat) (s : List Lf), shpF P f r off = some s → (∀ x ∈ r, ∃ fuel y, DataW.trod enc P w base spare held fuel x.type ((cs.drop x.offset).take (P.cellsOf x.type)) = some y) → Typed s ((cs.drop off).take s.length)
  | [], off, s, h, _ => by
    simp only [shpF, Option.some.injEq] at h
    subst h
    simp [Typed]
  | x :: r, off, s, h, hx => by
    unfold shpF at h
    split at h
    · cases h
    · rename_i s1 hs1
      split at h
      · cases h
      · rename_i hb
        rw [Bool.and_eq_true] at hb
        have hb := And.intro (Nat.eq_of_beq_eq_true hb.1) (Nat.eq_of_beq_eq_true hb.2)
        split at h
        · cases h
        · rename_i s2 hs2
          cases h
          obtain ⟨fuel, y, hy⟩ := hx x (by simp)
          have t1 := ih _ _ hs1 _ _ _ hy
          rw [hb.1, hb.2] at t1
          have t2 := typedF ih r (off + s1.length) s2 hs2 (fun z hz => hx z (by simp [hz]))
          rw [List.length_append, List.take_add, List.drop_drop]
          exact t1.append t2
theorem typedA {t : TypeId} {s : List Lf} {cs : List Value} : ∀ (m i : Nat), (∀ j, i ≤ j → j < i + m → Typed s ((cs.drop (j * s.length)).take s.length)) → Typed (rep s m) ((cs.drop (i * s.length)).take (m * s.length))
  | 0, i, _ => by simp [rep, Typed]
  | m + 1, i, h => by
    have t1 := h i (Nat.le_refl _) (by omega)
    have t2 := typedA (t := t) m (i + 1) (fun j h1 h2 => h j (by omega) (by omega))
    rw [rep, show (m + 1) * s.length = s.length + m * s.length by rw [Nat.add_mul]; omega, List.take_add, List.drop_drop, show i * s.length + s.length = (i + 1) * s.length by rw [Nat.add_mul]; omega]
    exact t1.append t2
theorem typed_of : ∀ (n : Nat) (t : TypeId) (s : List Lf), shp P n t = some s → ∀ fuel cs x, DataW.trod enc P w base spare held fuel t cs = some x → Typed s cs
  | 0, _, _, h, _, _, _, _ => by cases h
  | n + 1, t, s, h, fuel, cs, x, hx => by
    unfold shp at h
    split at h
    · rename_i k ht
      cases h
      obtain ⟨m, rfl, _, hw⟩ := DataW.trod_int ht hx
      exact ⟨⟨m, rfl, hw⟩, trivial⟩
    · rename_i ht
      cases h
      obtain ⟨b, rfl, _⟩ := DataW.trod_bool ht hx
      exact ⟨⟨b, rfl⟩, trivial⟩
    · rename_i ht
      cases h
      obtain ⟨b, rfl, _, hw⟩ := DataW.trod_string ht hx
      exact ⟨⟨b, rfl, hw⟩, trivial⟩
    · rename_i fs ht
      split at h
      · cases h
      · rename_i s1 hs1
        split at h
        · rename_i hb
          cases h
          have hb := Nat.eq_of_beq_eq_true hb
          obtain ⟨xs, m, _, _, hl, hxl, hf⟩ := DataW.trod_struct ht hx
          have := typedF (cs := cs) (typed_of n) fs.toList 0 s hs1 (fun y hy => by
            obtain ⟨i, hi⟩ := List.getElem?_of_mem hy
            have hi' : fs[i]? = some y := by simpa using hi
            have hlt : i < xs.length := by rw [hxl]; exact (Array.getElem?_eq_some_iff.1 hi').1
            exact ⟨m, xs[i], (hf i y hi').trans (List.getElem?_eq_getElem hlt)⟩)
          rwa [List.drop_zero, List.take_of_length_le (by omega)] at this
        · cases h
    · rename_i m e ht
      split at h
      · cases h
      · rename_i s1 hs1
        split at h
        · rename_i hb
          cases h
          rw [Bool.and_eq_true] at hb
          have hb := And.intro (Nat.eq_of_beq_eq_true hb.1) (Nat.eq_of_beq_eq_true hb.2)
          obtain ⟨xs, k, _, _, hl, hxl, hf⟩ := DataW.trod_array ht hx
          have := typedA (t := t) (s := s1) (cs := cs) m 0 (fun j _ hj => by
            have hjm : j < m := by omega
            have h1 := (hf j hjm).trans (List.getElem?_eq_getElem (by omega))
            rw [hb.1] at h1
            exact typed_of n e s1 hs1 _ _ _ h1)
          rw [Nat.zero_mul, List.drop_zero, List.take_of_length_le (by omega)] at this
          exact this
        · cases h
    · cases h
end
end Go.Vc
namespace Go.Vc
open Go Go.RowKit
theorem Typed.split : ∀ {s s' : List Lf} {cs : List Value}, Typed (s ++ s') cs → Typed s (cs.take s.length) ∧ Typed s' (cs.drop s.length)
  | [], _, _, h => ⟨trivial, h⟩
  | _ :: _, _, [], h => h.elim
  | _ :: _, _, _ :: _, h => ⟨⟨h.1, (Typed.split h.2).1⟩, (Typed.split h.2).2⟩
theorem mapM_ex {α β : Type} {f : α → Option β} : ∀ {l : List α}, (∀ x ∈ l, ∃ y, f x = some y) → ∃ ys, l.mapM f = some ys
  | [], _ => ⟨[], by simp⟩
  | x :: l, h => by
    obtain ⟨y, hy⟩ := h x (by simp)
    obtain ⟨ys, hys⟩ := mapM_ex (l := l) fun z hz => h z (by simp [hz])
    exact ⟨y :: ys, by simp [hy, hys]⟩
section
variable {P : Program}
theorem fields_typed {f : TypeId → Option (List Lf)} {cs : List Value} : ∀ (r : List Field) (off : Nat) (s : List Lf), shpF P f r off = some s → Typed s ((cs.drop off).take s.length) →
    ∀ x ∈ r, ∃ sx, f x.type = some sx ∧ Typed sx ((cs.drop x.offset).take (P.cellsOf x.type))
  | [], _, _, _, _, _, h => by cases h
  | y :: r, off, s, h, hT, x, hx => by
    unfold shpF at h
    split at h
    · cases h
    · rename_i s1 hs1
      split at h
      · cases h
      · rename_i hb
        rw [Bool.and_eq_true] at hb
        have hb := And.intro (Nat.eq_of_beq_eq_true hb.1) (Nat.eq_of_beq_eq_true hb.2)
        split at h
        · cases h
        · rename_i s2 hs2
          cases h
          rw [List.length_append] at hT
          obtain ⟨t1, t2⟩ := hT.split
          rw [List.take_take, Nat.min_eq_left (by omega)] at t1
          rw [List.drop_take, List.drop_drop, Nat.add_sub_cancel_left] at t2
          rcases List.mem_cons.1 hx with rfl | hx
          · exact ⟨s1, hs1, by rw [hb.1, hb.2]; exact t1⟩
          · exact fields_typed r _ s2 hs2 t2 x hx
theorem items_typed {s : List Lf} {cs : List Value} : ∀ (m i : Nat), Typed (rep s m) ((cs.drop (i * s.length)).take (m * s.length)) → ∀ j, i ≤ j → j < i + m → Typed s ((cs.drop (j * s.length)).take s.length)
  | 0, i, _, j, h1, h2 => by omega
  | m + 1, i, h, j, h1, h2 => by
    rw [rep, show (m + 1) * s.length = s.length + m * s.length by rw [Nat.add_mul]; omega] at h
    obtain ⟨t1, t2⟩ := h.split
    rw [List.take_take, Nat.min_eq_left (by omega)] at t1
    rw [List.drop_take, List.drop_drop, Nat.add_sub_cancel_left, show i * s.length + s.length = (i + 1) * s.length by rw [Nat.add_mul]; omega] at t2
    by_cases hj : j = i
    · subst hj; exact t1
    · exact items_typed m (i + 1) t2 j (by omega) (by omega)
theorem lits_of : ∀ (n : Nat) (t : TypeId) (s : List Lf), shp P n t = some s → P.keyTypeAt n t = true → ∀ (D : Nat), n ≤ D → ∀ cs, Typed s cs → ∃ L, P.keyLits D t cs = some L
  | 0, _, _, h, _, _, _, _, _ => by cases h
  | n + 1, t, s, h, hk, 0, hD, _, _ => by omega
  | n + 1, t, s, h, hk, D + 1, hD, cs, hT => by
    unfold shp at h
    unfold Program.keyTypeAt at hk
    unfold Program.keyLits
    split at h
    · rename_i k ht
      cases h
      match cs, hT with
      | [v], hT =>
        obtain ⟨m, e, hw⟩ := hT.1
        subst e
        rw [ht]
        exact ⟨[.int k m], by simp [hw]⟩
    · rename_i ht
      cases h
      match cs, hT with
      | [v], hT =>
        obtain ⟨b, e⟩ := hT.1
        subst e
        rw [ht]
        exact ⟨[.bool b], rfl⟩
    · rename_i ht
      cases h
      match cs, hT with
      | [v], hT =>
        obtain ⟨b, e, hw⟩ := hT.1
        subst e
        rw [ht]
        exact ⟨[.string b.data.toList], by simp [hw]⟩
    · rename_i fs ht
      rw [ht] at hk ⊢
      simp only [Bool.and_eq_true] at hk
      split at h
      · cases h
      · rename_i s1 hs1
        split at h
        · rename_i hb
          cases h
          have hb := Nat.eq_of_beq_eq_true hb
          have hfs : ∀ x ∈ fs.toList, x.name ≠ "_" ∧ P.keyTypeAt n x.type = true := fun x hx => by
            have := hk.1.1
            rw [Array.all_eq_true_iff_forall_mem] at this
            have := this x (by simpa using hx)
            simpa using this
          have hlen : cs.length = P.cellsOf t := by rw [hT.len, hb]
          have hnm : fs.all (fun f => f.name != "_") = true := by
            rw [Array.all_eq_true_iff_forall_mem]
            intro x hx
            simpa using (hfs x (by simpa using hx)).1
          obtain ⟨Ls, hLs⟩ := mapM_ex (f := fun f : Field => P.keyLits D f.type ((cs.drop f.offset).take (P.cellsOf f.type))) (l := fs.toList) fun x hx => by
            obtain ⟨sx, h1, h2⟩ := fields_typed (cs := cs) fs.toList 0 s hs1 (by rw [List.drop_zero, List.take_of_length_le (by rw [hT.len]; exact Nat.le_refl _)]; exact hT) x hx
            exact lits_of n x.type sx h1 (hfs x hx).2 D (by omega) _ h2
          exact ⟨Ls.flatten, by simp only [hlen, hnm, and_self, if_true, hLs, Option.map_some]⟩
        · cases h
    · rename_i m e ht
      rw [ht] at hk ⊢
      split at h
      · cases h
      · rename_i s1 hs1
        split at h
        · rename_i hb
          cases h
          rw [Bool.and_eq_true] at hb
          have hb := And.intro (Nat.eq_of_beq_eq_true hb.1) (Nat.eq_of_beq_eq_true hb.2)
          have hlen : cs.length = P.cellsOf t := by rw [hT.len, hb.2, rep_len]
          obtain ⟨Ls, hLs⟩ := mapM_ex (f := fun i : Nat => P.keyLits D e ((cs.drop (i * P.cellsOf e)).take (P.cellsOf e))) (l := List.range m) fun j hj => by
            have hj := List.mem_range.1 hj
            have h2 := items_typed (s := s1) (cs := cs) m 0 (by rw [Nat.zero_mul, List.drop_zero, List.take_of_length_le (by rw [hT.len, rep_len]; exact Nat.le_refl _)]; exact hT) j (Nat.zero_le _) (by omega)
            rw [hb.1]
            exact lits_of n e s1 hs1 hk D (by omega) _ h2
          exact ⟨Ls.flatten, by simp only [hlen, if_true, hLs, Option.map_some]⟩
        · cases h
    · cases h
structure EqTy (P : Program) (t : TypeId) (s : List Lf) : Prop where
  shp : shp P 20 t = some s
  key : P.keyTypeAt 20 t = true
  tile : P.tiled 20 t = true
  wide : (match P.underlying t with | some (.array _ _) | some (.struct _) => true | _ => false) = true
  guard : P.eqGuardType P.depth t = false
theorem EqTy.size {t : TypeId} {s : List Lf} (E : EqTy P t s) : P.cellsOf t = s.length := by
  have h := E.shp
  have hw := E.wide
  unfold Vc.shp at h
  split at h
  · rename_i ht; rw [ht] at hw; cases hw
  · rename_i ht; rw [ht] at hw; cases hw
  · rename_i ht; rw [ht] at hw; cases hw
  · split at h
    · cases h
    · split at h
      · rename_i hb; cases h; exact Nat.eq_of_beq_eq_true hb
      · cases h
  · split at h
    · cases h
    · split at h
      · rename_i hb; cases h
        rw [Bool.and_eq_true] at hb
        rw [Nat.eq_of_beq_eq_true hb.2, rep_len]
      · cases h
  · cases h
theorem EqTy.formed {t : TypeId} {s : List Lf} (E : EqTy P t s) {cs : List Value} (h : Typed s cs) : (Value.agg cs.toArray).formed P t = true := by
  have hw := E.wide
  have hz := E.size
  unfold Value.formed
  split at hw
  · rename_i ht; simp [ht, h.len, hz]
  · rename_i ht; simp [ht, h.len, hz]
  · cases hw
theorem EqTy.equal {t : TypeId} {s : List Lf} (E : EqTy P t s) {cs ds : List Value} (h1 : Typed s cs) (h2 : Typed s ds) (w : World) : ∃ r : Bool, (Op.equalIn 10000 t (.agg cs.toArray) (.agg ds.toArray)).run P w = .ok r w ∧ (r = true ↔ cs = ds) := by
  obtain ⟨la, hla⟩ := lits_of 20 t s E.shp E.key 20 (Nat.le_refl _) cs h1
  obtain ⟨lb, hlb⟩ := lits_of 20 t s E.shp E.key 20 (Nat.le_refl _) ds h2
  obtain ⟨r, hr, hiff⟩ := run_equalIn_deep (P := P) 9980 20 t E.key w 20 20 (.agg cs.toArray) (.agg ds.toArray) la lb (E.formed h1) (E.formed h2) (by simpa [Value.cells] using hla) (by simpa [Value.cells] using hlb)
  have e1 := cells_of_lits 20 t E.tile 20 cs la hla
  have e2 := cells_of_lits 20 t E.tile 20 ds lb hlb
  refine ⟨r, hr, hiff.trans ⟨fun e => by rw [e1, e2, e], fun e => ?_⟩⟩
  subst e; rw [hla] at hlb; exact Option.some.inj hlb
theorem EqTy.eqr {t : TypeId} {s : List Lf} (E : EqTy P t s) {cs ds : List Value} (h1 : Typed s cs) (h2 : Typed s ds) : ∃ r : Bool, (∀ w, (Op.equalIn 10000 t (.agg cs.toArray) (.agg ds.toArray)).run P w = .ok r w) ∧ (r = true ↔ cs = ds) := by
  classical
  refine ⟨decide (cs = ds), fun w => ?_, by simp⟩
  obtain ⟨r, hr, hi⟩ := E.equal h1 h2 w
  have : r = decide (cs = ds) := by rw [Bool.eq_iff_iff, hi, decide_eq_true_iff]
  rw [← this]; exact hr
theorem EqTy.eql {t : TypeId} {s : List Lf} (E : EqTy P t s) {cs ds : List Value} (h1 : Typed s cs) (h2 : Typed s ds) {x y : Operand} {k : Value → Prop} (hk : ∀ r : Bool, (r = true ↔ cs = ds) → k (.bool r)) : RunP P (binRun .eql t x y (.agg cs.toArray) (.agg ds.toArray)) k := by
  obtain ⟨r, hr, hi⟩ := E.eqr h1 h2
  refine ⟨_, fun w => ?_, hk r hi⟩
  have g := run_eqGuard_agg (P := P) w .eql t x y cs.toArray ds.toArray E.guard
  have e := run_eql_struct (P := P) w t cs.toArray ds.toArray
  rw [hr] at e
  simp only [binRun, Sem.run_bind, g, Result.andThen_ok, e]
theorem EqTy.neq {t : TypeId} {s : List Lf} (E : EqTy P t s) {cs ds : List Value} (h1 : Typed s cs) (h2 : Typed s ds) {x y : Operand} {k : Value → Prop} (hk : ∀ r : Bool, (r = true ↔ cs = ds) → k (.bool (!r))) : RunP P (binRun .neq t x y (.agg cs.toArray) (.agg ds.toArray)) k := by
  obtain ⟨r, hr, hi⟩ := E.eqr h1 h2
  refine ⟨_, fun w => ?_, hk r hi⟩
  have g := run_eqGuard_agg (P := P) w .neq t x y cs.toArray ds.toArray E.guard
  have e := run_neq_struct (P := P) w t cs.toArray ds.toArray
  rw [hr] at e
  simp only [binRun, Sem.run_bind, g, Result.andThen_ok, e]
end
end Go.Vc
namespace Go.Vc
open Go Go.RowKit
structure Res where
  foot : Nat → Prop
  ok : World → Prop
  st : ∀ {T : Nat → Prop} {W W' : World}, Fr T W W' → (∀ b, foot b → ¬ T b) → ok W → ok W'
def Res.cl (b : Nat) (c : List Value) (t : TypeId) : Res := ⟨fun x => x = b, fun W => W.heap[b]? = some (.cells c.toArray t (0, 0)), fun hf h k => hf.at (h b rfl) k⟩
def Res.sl {α : Type} (el : TypeId) (size : Nat) (enc : α → List Value) (v : Value) (l : List α) : Res := ⟨fun g => v.ownBlock = some g, fun W => SlR W el size enc v l, fun hf h k => k.fr hf h⟩
structure Ow (S : Nat → Prop) (W0 W : World) (rs : List Res) : Prop where
  fr : Fr S W0 W
  ok : ∀ (i : Nat) (r : Res), rs[i]? = some r → r.ok W
  lt : ∀ (i : Nat) (r : Res) (b : Nat), rs[i]? = some r → r.foot b → b < W.heap.size ∧ (S b ∨ W0.heap.size ≤ b)
  dis : ∀ (i j : Nat) (r r' : Res) (b : Nat), rs[i]? = some r → rs[j]? = some r' → r.foot b → r'.foot b → i = j
abbrev NoS : Nat → Prop := fun _ => False
section
variable {S : Nat → Prop} {W0 W W' : World} {rs : List Res}
theorem Ow.start (S : Nat → Prop) (W : World) : Ow S W W [] := ⟨Fr.refl _ _, fun i r h => by simp at h, fun i r b h => by simp at h, fun i j r r' b h => by simp at h⟩
theorem Ow.bel (h : Ow NoS W0 W rs) : Below W0.heap.size W0 W := h.fr.below
theorem Ow.size (h : Ow S W0 W rs) : W0.heap.size ≤ W.heap.size := h.fr.size
theorem Ow.get {r : Res} (h : Ow S W0 W rs) (i : Nat) (hi : rs[i]? = some r) : r.ok W := h.ok i r hi
theorem Ow.more (h : Ow S W0 W rs) (hb : Below W.heap.size W W') : Ow S W0 W' rs :=
  ⟨h.fr.trans (frOf hb), fun i r hi => r.st (frOf (S := fun _ => False) hb) (fun _ _ hf => hf) (h.ok i r hi), fun i r b hi hf => ⟨Nat.lt_of_lt_of_le (h.lt i r b hi hf).1 hb.size, (h.lt i r b hi hf).2⟩, h.dis⟩
theorem Ow.push (h : Ow S W0 W rs) (hb : Below W.heap.size W W') (r : Res) (ok : r.ok W') (hr : ∀ b, r.foot b → W.heap.size ≤ b ∧ b < W'.heap.size) : Ow S W0 W' (r :: rs) := by
  have hm := h.more hb
  refine ⟨hm.fr, fun i r' hi => ?_, fun i r' b hi hf => ?_, fun i j r1 r2 b h1 h2 f1 f2 => ?_⟩
  · cases i with
    | zero => simp at hi; subst hi; exact ok
    | succ i => exact hm.ok i r' (by simpa using hi)
  · cases i with
    | zero => simp at hi; subst hi; exact ⟨(hr b hf).2, .inr (Nat.le_trans h.size (hr b hf).1)⟩
    | succ i => exact hm.lt i r' b (by simpa using hi) hf
  · cases i with
    | zero =>
      simp at h1; subst h1
      cases j with
      | zero => rfl
      | succ j => have := (h.lt j r2 b (by simpa using h2) f2).1; have := (hr b f1).1; omega
    | succ i =>
      cases j with
      | zero => simp at h2; subst h2; have := (h.lt i r1 b (by simpa using h1) f1).1; have := (hr b f2).1; omega
      | succ j => rw [hm.dis i j r1 r2 b (by simpa using h1) (by simpa using h2) f1 f2]
theorem Ow.upd {i : Nat} {r : Res} (h : Ow S W0 W rs) (hi : rs[i]? = some r) (hf : Fr r.foot W W') (r' : Res) (ok : r'.ok W') (hr : ∀ b, r'.foot b → r.foot b ∨ (W.heap.size ≤ b ∧ b < W'.heap.size)) : Ow S W0 W' (rs.set i r') := by
  have hil : i < rs.length := (List.getElem?_eq_some_iff.1 hi).1
  have hz := hf.size
  refine ⟨h.fr.trans' hf fun b hb hlt => (h.lt i r b hi hb).2.resolve_right (by omega), fun j r1 hj => ?_, fun j r1 b hj hb => ?_, fun j k r1 r2 b h1 h2 f1 f2 => ?_⟩
  · by_cases e : i = j
    · subst e
      rw [List.getElem?_set_self hil] at hj
      cases hj; exact ok
    · rw [List.getElem?_set_ne e] at hj
      exact r1.st hf (fun b hb hrb => e (h.dis i j r r1 b hi hj hrb hb)) (h.ok j r1 hj)
  · by_cases e : i = j
    · subst e
      rw [List.getElem?_set_self hil] at hj
      cases hj
      rcases hr b hb with h1 | h1
      · have := h.lt i r b hi h1; exact ⟨by omega, this.2⟩
      · have := h.size; exact ⟨h1.2, .inr (by omega)⟩
    · rw [List.getElem?_set_ne e] at hj
      have := h.lt j r1 b hj hb; exact ⟨by omega, this.2⟩
  · have hold : ∀ (j : Nat) (r1 : Res) (b : Nat), (rs.set i r')[j]? = some r1 → r1.foot b → b < W.heap.size → ∃ r3 : Res, rs[j]? = some r3 ∧ r3.foot b := fun j r1 b hj hb hlt => by
      by_cases e : i = j
      · subst e
        rw [List.getElem?_set_self hil] at hj
        cases hj
        exact ⟨r, hi, (hr b hb).resolve_right (by omega)⟩
      · rw [List.getElem?_set_ne e] at hj; exact ⟨r1, hj, hb⟩
    have hnew : ∀ (j : Nat) (r1 : Res) (b : Nat), (rs.set i r')[j]? = some r1 → r1.foot b → W.heap.size ≤ b → j = i := fun j r1 b hj hb hlt => by
      by_cases e : i = j
      · exact e.symm
      · rw [List.getElem?_set_ne e] at hj
        have := (h.lt j r1 b hj hb).1; omega
    rcases Nat.lt_or_ge b W.heap.size with hlt | hge
    · obtain ⟨r3, h3, f3⟩ := hold j r1 b h1 f1 hlt
      obtain ⟨r4, h4, f4⟩ := hold k r2 b h2 f2 hlt
      exact h.dis j k r3 r4 b h3 h4 f3 f4
    · rw [hnew j r1 b h1 f1 hge, hnew k r2 b h2 f2 hge]
theorem Ow.pick {rs' : List Res} (h : Ow S W0 W rs) (js : List Nat) (hn : js.Nodup) (hm : js.map (fun j => rs[j]?) = rs'.map some) : Ow S W0 W rs' := by
  have key : ∀ (i : Nat) (r : Res), rs'[i]? = some r → ∃ j : Nat, js[i]? = some j ∧ rs[j]? = some r := fun i r hi => by
    have e : (js.map (fun j => rs[j]?))[i]? = (rs'.map some)[i]? := by rw [hm]
    rw [List.getElem?_map, List.getElem?_map, hi] at e
    cases hj : js[i]? with
    | none => rw [hj] at e; cases e
    | some j => rw [hj] at e; exact ⟨j, rfl, by simpa using e⟩
  refine ⟨h.fr, fun i r hi => ?_, fun i r b hi hb => ?_, fun i j r r' b h1 h2 f1 f2 => ?_⟩
  · obtain ⟨j, _, hj⟩ := key i r hi; exact h.ok j r hj
  · obtain ⟨j, _, hj⟩ := key i r hi; exact h.lt j r b hj hb
  · obtain ⟨i', e1, g1⟩ := key i r h1
    obtain ⟨j', e2, g2⟩ := key j r' h2
    have := h.dis i' j' r r' b g1 g2 f1 f2
    subst this
    have l1 := (List.getElem?_eq_some_iff.1 e1)
    have l2 := (List.getElem?_eq_some_iff.1 e2)
    rcases Nat.lt_trichotomy i j with h | h | h
    · exact absurd (l1.2.trans l2.2.symm) (List.pairwise_iff_getElem.1 hn i j l1.1 l2.1 h)
    · exact h
    · exact absurd (l2.2.trans l1.2.symm) (List.pairwise_iff_getElem.1 hn j i l2.1 l1.1 h)
theorem Ow.nil {α : Type} (h : Ow S W0 W rs) (el : TypeId) (size : Nat) (enc : α → List Value) : Ow S W0 W (.sl el size enc (.slice none 0 0) [] :: rs) :=
  h.push (Below.refl _ _) _ (SlR.nil _ _) fun b hb => by cases hb
theorem Ow.take (h : Ow S W0 W rs) (r : Res) (ok : r.ok W) (hr : ∀ b, r.foot b → b < W.heap.size ∧ (S b ∨ W0.heap.size ≤ b)) (hd : ∀ (i : Nat) (r' : Res) (b : Nat), rs[i]? = some r' → r'.foot b → ¬ r.foot b) : Ow S W0 W (r :: rs) := by
  refine ⟨h.fr, fun i r' hi => ?_, fun i r' b hi hf => ?_, fun i j r1 r2 b h1 h2 f1 f2 => ?_⟩
  · cases i with
    | zero => simp at hi; subst hi; exact ok
    | succ i => exact h.ok i r' (by simpa using hi)
  · cases i with
    | zero => simp at hi; subst hi; exact hr b hf
    | succ i => exact h.lt i r' b (by simpa using hi) hf
  · cases i with
    | zero =>
      simp at h1; subst h1
      cases j with
      | zero => rfl
      | succ j => exact absurd f1 (hd j r2 b (by simpa using h2) f2)
    | succ i =>
      cases j with
      | zero => simp at h2; subst h2; exact absurd f2 (hd i r1 b (by simpa using h1) f1)
      | succ j => rw [h.dis i j r1 r2 b (by simpa using h1) (by simpa using h2) f1 f2]
theorem Ow.new {cells : List Value} {t : TypeId} {k : Addr → World → Prop} (h : Ow S W0 W rs) (hk : ∀ b W', Ow S W0 W' (.cl b cells t :: rs) → k ⟨b, 0, none⟩ W') : NewA cells.toArray t W k :=
  NewA.mk fun b W' h1 hb hs hbl => hk b W' (h.push hbl _ h1 fun x hx => by cases hx; omega)
theorem Ow.news {tot : Nat} {zero : List Value} {ps : List (Nat × Nat × Value)} {t : TypeId} {k : Addr → World → Prop} {cs : List Value} (h : Ow S W0 W rs) (hp : partsOk tot ps) (hc : splice zero ps = cs) (hk : ∀ b W', Ow S W0 W' (.cl b cs t :: rs) → k ⟨b, 0, none⟩ W') : NewSC tot zero ps t W k :=
  NewSC.mk hp (cs := cs.toArray) (by rw [hc]) fun b W' h1 hb hs hbl => hk b W' (h.push hbl _ h1 fun x hx => by cases hx; omega)
theorem Ow.any {k : World → Prop} (h : Ow S W0 W rs) (hk : ∀ W', Ow S W0 W' rs → k W') : Any W k := fun W' hb => hk W' (h.more hb)
section cl
variable {b : Nat} {c : List Value} {t : TypeId}
theorem Ow.ld {u : Value} {k : Value → Prop} (h : Ow S W0 W rs) (i : Nat) (hi : rs[i]? = some (.cl b c t)) (hu : c[0]? = some u) (hk : k u) : Ld1 W ⟨b, 0, none⟩ k :=
  Ld1.mk (h.get i hi) (by simpa using hu) hk
theorem Ow.ldA {n : Nat} {u : Value} {k : Value → Prop} (h : Ow S W0 W rs) (i : Nat) (hi : rs[i]? = some (.cl b c t)) (hu : c[n]? = some u) (hk : k u) : Ld1 W (Addr.add ⟨b, 0, none⟩ n) k :=
  Ld1.ad (h.get i hi) (by simpa using hu) hk
theorem Ow.ldw {n : Nat} {k : List Value → Prop} (h : Ow S W0 W rs) (i : Nat) (hi : rs[i]? = some (.cl b c t)) (hn : c.length = n) (hk : k c) : LdNC W ⟨b, 0, none⟩ n k :=
  LdNC.mk (h.get i hi) hn (by rw [← hn]; simp) hk
theorem Ow.ldp {n j : Nat} {cs : List Value} {k : List Value → Prop} (h : Ow S W0 W rs) (i : Nat) (hi : rs[i]? = some (.cl b c t)) (hc : (c.drop j).take n = cs) (hn : cs.length = n) (hk : k cs) : LdNC W (Addr.add ⟨b, 0, none⟩ j) n k :=
  LdNC.ad (h.get i hi) hn (by simpa using hc) hk
theorem Ow.stl {u : Value} {k : Prop} (h : Ow S W0 W rs) (i : Nat) (hi : rs[i]? = some (.cl b c t)) (hu : c[0]? = some u) (hk : k) : StL W ⟨b, 0, none⟩ u k :=
  StL.mk (h.get i hi) (by simpa using hu) hk
theorem Ow.stlA {n : Nat} {u : Value} {k : Prop} (h : Ow S W0 W rs) (i : Nat) (hi : rs[i]? = some (.cl b c t)) (hu : c[n]? = some u) (hk : k) : StL W (Addr.add ⟨b, 0, none⟩ n) u k :=
  StL.ad (h.get i hi) (by simpa using hu) hk
theorem Ow.stn {n : Nat} {k : Prop} (h : Ow S W0 W rs) (i : Nat) (hi : rs[i]? = some (.cl b c t)) (hn : c.length = n) (hk : k) : StN W ⟨b, 0, none⟩ c.toArray n k :=
  StN.mk (h.get i hi) (by simpa using hn) (by rw [← hn]; simp) hk
theorem Ow.stw {n : Nat} {cs : List Value} {k : World → Prop} (h : Ow S W0 W rs) (i : Nat) (hi : rs[i]? = some (.cl b c t)) (hc : c.length = n) (hn : cs.length = n) (h1 : cs.all oneC = true) (hk : ∀ W', Ow S W0 W' (rs.set i (.cl b cs t)) → k W') : StV n W ⟨b, 0, none⟩ (.agg cs.toArray) k := by
  refine StV.to (h.get i hi) (by simpa [Value.cells] using hn) (by simp [hc]) (by simpa [Value.cells] using h1) (cs := cs.toArray) (by simp [Value.cells, ← hc]) fun W' h2 hs hf => ?_
  exact hk W' (h.upd hi hf _ h2 fun x hx => .inl hx)
theorem Ow.st1 {j : Nat} {v : Value} {k : World → Prop} (h : Ow S W0 W rs) (i : Nat) (hi : rs[i]? = some (.cl b c t)) (c' : List Value) (hc : c.set j v = c') (hv : v.cells = #[v]) (h1 : oneC v = true) (hlt : j < c.length) (hk : ∀ W', Ow S W0 W' (rs.set i (.cl b c' t)) → k W') : StV 1 W (Addr.add ⟨b, 0, none⟩ j) v k := by
  refine StV.ad1 (h.get i hi) hv (by simpa using hlt) h1 fun W' h2 hs hf => ?_
  refine hk W' (h.upd hi hf _ ?_ fun x hx => .inl hx)
  subst hc
  simpa [Res.cl] using h2
theorem Ow.st0 {v : Value} {k : World → Prop} (h : Ow S W0 W rs) (i : Nat) (hi : rs[i]? = some (.cl b c t)) (c' : List Value) (hc : c.set 0 v = c') (hv : v.cells = #[v]) (h1 : oneC v = true) (hlt : 0 < c.length) (hk : ∀ W', Ow S W0 W' (rs.set i (.cl b c' t)) → k W') : StV 1 W ⟨b, 0, none⟩ v k := by
  refine StV.to1 (h.get i hi) hv (by simpa using hlt) h1 fun W' h2 hs hf => ?_
  refine hk W' (h.upd hi hf _ ?_ fun x hx => .inl hx)
  subst hc
  simpa [Res.cl] using h2
theorem Ow.stp {j n : Nat} {cs : List Value} {k : World → Prop} (h : Ow S W0 W rs) (i : Nat) (hi : rs[i]? = some (.cl b c t)) (c' : List Value) (hc : c.take j ++ cs ++ c.drop (j + n) = c') (hn : cs.length = n) (h1 : cs.all oneC = true) (hlt : j + n ≤ c.length) (hk : ∀ W', Ow S W0 W' (rs.set i (.cl b c' t)) → k W') : StV n W (Addr.add ⟨b, 0, none⟩ j) (.agg cs.toArray) k := by
  refine StV.ad (h.get i hi) (by simpa [Value.cells] using hn) (by simpa using hlt) (by simpa [Value.cells] using h1) (cs := c'.toArray) (by simp [Value.cells, ← hc]) fun W' h2 hs hf => ?_
  exact hk W' (h.upd hi hf _ h2 fun x hx => .inl hx)
end cl
section call
variable {P : Program} {f : FuncId} {args : Array Value} {kp : List PanicEntry → World → Prop} {k : Value → World → Prop}
theorem Ow.callv {v : Value} (h : Ow S W0 W rs) (hg : Gives P f args W fun u W' => u = v ∧ Below W.heap.size W W') (hk : ∀ W', Ow S W0 W' rs → k v W') : CallK P f args W kp k :=
  CallK.mk hg fun u W' hu => by rw [hu.1]; exact hk W' (h.more hu.2)
theorem Ow.call {Q : Value → World → Prop} (h : Ow S W0 W rs) (hg : Gives P f args W fun u W' => Q u W' ∧ Below W.heap.size W W') (hk : ∀ u W', Q u W' → Ow S W0 W' rs → k u W') : CallK P f args W kp k :=
  CallK.mk hg fun u W' hu => hk u W' hu.1 (h.more hu.2)
def NewSl {α : Type} (W : World) (el : TypeId) (size : Nat) (enc : α → List Value) (l : List α) (v : Value) (W' : World) : Prop :=
  ∃ a c, v = .slice a l.length c ∧ SlR W' el size enc v l ∧ ∀ g, v.ownBlock = some g → W.heap.size ≤ g
theorem Ow.newsl {α : Type} {el : TypeId} {size : Nat} {enc : α → List Value} {l : List α} {v : Value} (h : Ow S W0 W rs) (hb : Below W.heap.size W W') (hs : SlR W' el size enc v l) (ho : ∀ g, v.ownBlock = some g → W.heap.size ≤ g) : Ow S W0 W' (.sl el size enc v l :: rs) :=
  h.push hb _ hs fun b hf => ⟨ho b hf, hs.lt hf⟩
theorem Ow.calls {α : Type} {el : TypeId} {size : Nat} {enc : α → List Value} {l : List α} (h : Ow S W0 W rs) (hg : Gives P f args W fun u W' => NewSl W el size enc l u W' ∧ Below W.heap.size W W') (hk : ∀ a c W', Ow S W0 W' (.sl el size enc (.slice a l.length c) l :: rs) → k (.slice a l.length c) W') : CallK P f args W kp k :=
  CallK.mk hg fun u W' hu => by
    obtain ⟨⟨a, c, rfl, hs, ho⟩, hb⟩ := hu
    exact hk a c W' (h.newsl hb hs ho)
theorem Ow.yieldv {lb rb : Array Value} {v : Value} (h : Ow S W0 W rs) (hc : Ok P f) (hg : Gives P f (lb ++ args ++ rb) W fun u W' => u = v ∧ Below W.heap.size W W') (hk : ∀ W', Ow S W0 W' rs → k v W') :
    YieldK P (callSem (.func (.func f) lb rb) args) W kp k :=
  YieldK.func hc hg fun u W' hu => by rw [hu.1]; exact hk W' (h.more hu.2)
end call
structure ElT {α : Type} (P : Program) (t el : TypeId) (size : Nat) (enc : α → List Value) : Prop where
  len : ∀ a, (enc a).length = size
  one : ∀ a, ∀ u ∈ enc a, u.oneCell' = true
  ty : P.underlying t = some (.slice el)
  inf : ∃ i z, P.info? el = some i ∧ i.zero = some z ∧ i.size = size ∧ z.cells.size = size ∧ i.bytes ≤ 1000
  pos : 0 < size
section sl
variable {α : Type} {P : Program} {t el : TypeId} {size : Nat} {enc : α → List Value} {a : Option Addr} {n c : Nat} {l : List α}
theorem ElT.bound {i : TypeInfo} {m : Nat} (hb : i.bytes ≤ 1000) (hm : m ≤ 100000000000) : m * i.bytes ≤ 140737488355328 ∧ m ≤ maxLen :=
  ⟨Nat.le_trans (Nat.mul_le_mul hm hb) (by decide), Nat.le_trans hm (by decide)⟩
theorem Ow.app {W1 : World} {x : List α} {v' : Value} (h : Ow S W0 W rs) (i : Nat) (hi : rs[i]? = some (.sl el size enc (.slice a n c) l)) (hg : W.grownBy W1 (Value.slice a n c).ownBlock) (hs : SlR W1 el size enc v' x) (ho : v'.ownBlock = (Value.slice a n c).ownBlock ∨ v'.ownBlock = some W.heap.size) :
    Ow S W0 W1 (rs.set i (.sl el size enc v' x)) :=
  h.upd hi (Fr.grown hg fun k hk => hk) _ hs fun b hb => by
    rcases ho with e | e
    · have hb' : v'.ownBlock = some b := hb
      rw [e] at hb'; exact .inl hb'
    · have hb' : v'.ownBlock = some b := hb
      rw [e] at hb'; cases hb'
      exact .inr ⟨Nat.le_refl _, hs.lt e⟩
theorem Ow.app1 {q : Nat} {d : α} {t' ty : TypeId} {k : Value → World → Prop} (h : Ow S W0 W rs) (E : ElT P t el size enc) (i j : Nat) (hi : rs[i]? = some (.sl el size enc (.slice a n c) l)) (hj : rs[j]? = some (.cl q (enc d) t')) (hl : l.length + 1 ≤ 100000000000) (hk : ∀ a' c' W', Ow S W0 W' (rs.set i (.sl el size enc (.slice a' (l ++ [d]).length c') (l ++ [d]))) → k (.slice a' (l ++ [d]).length c') W') :
    RunW P (Builtin.append_ #[t, t] ty #[.slice a n c, .slice (some ⟨q, 0, none⟩) 1 1]) W k := by
  obtain ⟨inf, z, hi1, hz, hsz, hzs, hby⟩ := E.inf
  have hs : SlR W el size enc (.slice a n c) l := h.get i hi
  have hq : W.heap[q]? = some (.cells (enc d).toArray t' (0, 0)) := h.get j hj
  have hb := ElT.bound (m := l.length + [d].length) hby hl
  obtain ⟨v', W', hrun, hs', hgr, hown⟩ := hs.append (P := P) (ty := ty) (ys := [d]) (c := 1) (a := ⟨q, 0, none⟩) E.len E.one E.ty hi1 hz hsz rfl hzs E.pos (cells_row (by simpa using hq)) hb.1 hb.2
  obtain ⟨a', c', hv'⟩ := hs'.shape
  subst hv'
  exact ⟨_, W', hrun, hk a' c' W' (h.app i hi hgr hs' hown)⟩
theorem Ow.appR {ty : TypeId} {a2 : Option Addr} {n2 c2 : Nat} {ys : List α} {k : Value → World → Prop} (h : Ow S W0 W rs) (E : ElT P t el size enc) (i : Nat) (hi : rs[i]? = some (.sl el size enc (.slice a n c) l)) (hr : RdL W size enc a2 ys) (hn : n2 = ys.length) (hl : l.length + ys.length ≤ 100000000000) (hk : ∀ a' c' W', Ow S W0 W' (rs.set i (.sl el size enc (.slice a' (l ++ ys).length c') (l ++ ys))) → k (.slice a' (l ++ ys).length c') W') :
    RunW P (Builtin.append_ #[t, t] ty #[.slice a n c, .slice a2 n2 c2]) W k := by
  obtain ⟨inf, z, hi1, hz, hsz, hzs, hby⟩ := E.inf
  have hs : SlR W el size enc (.slice a n c) l := h.get i hi
  have hb := ElT.bound (m := l.length + ys.length) hby hl
  obtain ⟨v', W', hrun, hs', hgr, hown⟩ := hs.appendR (P := P) (ty := ty) (n := n2) (c := c2) E.len E.one E.ty hi1 hz hsz rfl hzs E.pos hr hn hb.1 hb.2
  obtain ⟨a', c', hv'⟩ := hs'.shape
  subst hv'
  exact ⟨_, W', hrun, hk a' c' W' (h.app i hi hgr hs' hown)⟩
theorem Ow.rd (h : Ow S W0 W rs) (i : Nat) (hi : rs[i]? = some (.sl el size enc (.slice a n c) l)) : RdL W size enc a l := SlR.rd (h.get i hi)
theorem Ow.len (h : Ow S W0 W rs) (i : Nat) (hi : rs[i]? = some (.sl el size enc (.slice a n c) l)) : n = l.length := SlR.len (h.get i hi)
theorem Ow.cap (h : Ow S W0 W rs) (i : Nat) (hi : rs[i]? = some (.sl el size enc (.slice a n c) l)) : l.length ≤ c := SlR.cap (h.get i hi)
theorem Ow.sset {x : Int} {j : Nat} {y : α} {K : World → Prop} (h : Ow S W0 W rs) (E : ElT P t el size enc) (i : Nat) (hi : rs[i]? = some (.sl el size enc (.slice a n c) l)) (hx : x = (j : Int)) (hj : j < l.length) (h1 : (enc y).all oneC = true) (hk : ∀ W', Ow S W0 W' (rs.set i (.sl el size enc (.slice a n c) (l.set j y))) → K W') : IdxS a n x size fun q => StV size W q (.agg (enc y).toArray) K := by
  have hs : SlR W el size enc (.slice a n c) l := h.get i hi
  have e := hs.len; subst e
  obtain ⟨g, cap, cur, hv, hg, h2, h3, h4, h5⟩ := hs.cells (by intro e; subst e; simp at hj)
  cases hv
  have hle : j * size + size ≤ cur.size := by
    rw [h4]
    have : (j + 1) * size ≤ c * size := Nat.mul_le_mul_right _ (by omega)
    rwa [Nat.add_mul, Nat.one_mul] at this
  obtain ⟨hs1, hs2⟩ := row_set E.len y h2 h4 h5 hj
  refine IdxS.mk hx hj ?_
  refine StV.ad hg (v := .agg (enc y).toArray) (by simpa [Value.cells] using E.len y) (by omega) (by simpa [Value.cells] using h1) (cs := (cur.toList.take (j * size) ++ enc y ++ cur.toList.drop (j * size + size)).toArray) (by simp [Value.cells]) fun W' hg' _ hf => ?_
  have hs' := SlR.mk (l := l.set j y) E.len hg' (by simpa using h2) h3 hs1 hs2
  rw [List.length_set] at hs'
  exact hk W' (h.upd hi (hf.mono fun b _ hb => by rw [hb]; rfl) _ hs' fun b hb => .inl hb)
end sl
end
theorem Ow.out {W0 W : World} {rs : List Res} {α : Type} {el : TypeId} {size : Nat} {enc : α → List Value} {a : Option Addr} {n c : Nat} {l : List α} (h : Ow NoS W0 W rs) (i : Nat) (hi : rs[i]? = some (.sl el size enc (.slice a n c) l)) : NewSl W0 el size enc l (.slice a n c) W ∧ Below W0.heap.size W0 W :=
  ⟨⟨a, c, by rw [h.len i hi], h.get i hi, fun g hg => (h.lt i _ g hi hg).2.resolve_left id⟩, h.bel⟩
theorem least {p : Nat → Prop} (h : ∃ n, p n) : ∃ n, p n ∧ ∀ m, p m → n ≤ m := by
  obtain ⟨n, hn⟩ := h
  induction n using Nat.strongRecOn with
  | ind n ih =>
    by_cases hm : ∃ m, m < n ∧ p m
    · obtain ⟨m, h1, h2⟩ := hm; exact ih m h1 h2
    · exact ⟨n, hn, fun m hp => Nat.le_of_not_lt fun h1 => hm ⟨m, h1, hp⟩⟩
open Classical in
theorem Lp.of {σ : Type} {body : List Value → World → (List Value → World → Prop) → Prop} {W : World} {s0 : List Value} (enc : σ → List Value) (I : σ → World → Prop) (μ : σ → Nat) (t0 : σ) (e0 : s0 = enc t0) (h0 : I t0 W)
    (step : ∀ t W k, I t W → (∀ t' W', I t' W' → μ t' < μ t → k (enc t') W') → body (enc t) W k) : Lp body s0 W := by
  refine ⟨fun s W => ∃ t, s = enc t ∧ I t W, fun s W => if h : ∃ n, ∃ t, s = enc t ∧ I t W ∧ μ t = n then (least h).choose else 0, ⟨t0, e0, h0⟩, ?_⟩
  rintro s W ⟨t, hs, hI⟩
  have hex : ∃ n, ∃ t, s = enc t ∧ I t W ∧ μ t = n := ⟨_, t, hs, hI, rfl⟩
  obtain ⟨t1, hs1, hI1, hn⟩ := (least hex).choose_spec.1
  subst hs1
  refine step t1 W _ hI1 fun t' W' hI' hlt => ⟨⟨t', rfl, hI'⟩, ?_⟩
  have hex' : ∃ n, ∃ t, enc t' = enc t ∧ I t W' ∧ μ t = n := ⟨_, t', rfl, hI', rfl⟩
  dsimp only
  rw [dif_pos hex, dif_pos hex']
  exact Nat.lt_of_le_of_lt ((least hex').choose_spec.2 _ ⟨t', rfl, hI', rfl⟩) (by rw [← hn]; exact hlt)
end Go.Vc
namespace Go.Vc
open Go Go.RowKit
section
variable {S : Nat → Prop} {W0 W W' : World} {rs : List Res}
theorem IdxA.to {a : Addr} {len : Nat} {i : Int} {j sz : Nat} {k : Addr → Prop} (hi : i = (j : Int)) (hj : j < len) (hk : k (a.add (j * sz))) : IdxA a len i sz k := by
  subst hi
  exact ⟨by omega, by omega, by simpa using hk⟩
theorem Ow.ssetV {α : Type} {P : Program} {t el : TypeId} {size : Nat} {enc : α → List Value} {a : Option Addr} {n c : Nat} {l : List α} {x : Int} {j : Nat} {y : α} {v : Value} {K : World → Prop} (h : Ow S W0 W rs) (E : ElT P t el size enc) (i : Nat) (hi : rs[i]? = some (.sl el size enc (.slice a n c) l)) (hx : x = (j : Int)) (hj : j < l.length) (hv : v.cells = (enc y).toArray) (h1 : (enc y).all oneC = true)
    (hk : ∀ W', Ow S W0 W' (rs.set i (.sl el size enc (.slice a n c) (l.set j y))) → K W') : IdxS a n x size fun q => StV size W q v K := by
  have hk' := h.sset E i hi hx hj h1 hk
  refine (?_ : _ → _) hk'
  intro h2
  have e : ∀ W k, StV size W k v K ↔ StV size W k (.agg (enc y).toArray) K := fun W k => by
    unfold StV
    rw [hv]; exact Iff.rfl
  unfold IdxS at h2 ⊢
  obtain ⟨q, h3, h4, h5, h6⟩ := h2
  exact ⟨q, h3, h4, h5, (e W _).2 h6⟩
end
end Go.Vc
namespace Go.Vc
open Go Go.RowKit
set_option linter.unusedSectionVars false
set_option linter.unusedVariables false
theorem Typed.cons_inv {s : Lf} {ss : List Lf} {cs : List Value} (h : Typed (s :: ss) cs) : ∃ v r, cs = v :: r ∧ s.ok v ∧ Typed ss r := by
  cases cs with
  | nil => exact h.elim
  | cons v r => exact ⟨v, r, rfl, h.1, h.2⟩
theorem Typed.nil_inv {cs : List Value} (h : Typed [] cs) : cs = [] := by
  cases cs with
  | nil => rfl
  | cons v r => exact h.elim
theorem wf_iff {k : IntKind} {n lo hi : Int} (e1 : k.min = lo) (e2 : k.max = hi) : (Lit.int k n).wf = true ↔ lo ≤ n ∧ n ≤ hi := by
  show (decide (k.min ≤ n) && decide (n ≤ k.max)) = true ↔ _
  rw [e1, e2]
  simp
theorem wf_i64 {n : Int} : (Lit.int .i64 n).wf = true ↔ -9223372036854775808 ≤ n ∧ n ≤ 9223372036854775807 := wf_iff (by kernel_rfl) (by kernel_rfl)
theorem wf_u64 {n : Int} : (Lit.int .u64 n).wf = true ↔ 0 ≤ n ∧ n ≤ 18446744073709551615 := wf_iff (by kernel_rfl) (by kernel_rfl)
section fresh
variable {S : Nat → Prop} {W0 W : World} {rs : List Res}
theorem Ow.anyNew {cells : List Value} {t : TypeId} {k : Addr → World → Prop} (h : Ow S W0 W rs) (hk : ∀ b W', Ow S W0 W' (.cl b cells t :: rs) → k ⟨b, 0, none⟩ W') :
    Any W fun W' => ∀ lo hi v, Fresh W.heap.size lo hi W' [] → IsNew cells.toArray t lo hi v W' → AsA v fun q => k q W' := fun W' hb lo hi v hF hN => by
  obtain ⟨rfl, hlt, hc⟩ := hN
  exact ⟨_, rfl, hk lo W' (h.push hb (.cl lo cells t) hc fun x hx => by cases hx; exact ⟨hF.1, Nat.lt_of_lt_of_le hlt hF.2.2.1⟩)⟩
end fresh
theorem inf_of {P : Program} {el : TypeId} {size : Nat} (h : (match P.info? el with | some i => (match i.zero with | some z => Nat.beq i.size size && (Nat.beq z.cells.size size && Nat.ble i.bytes 1000) | none => false) | none => false) = true) :
    ∃ i z, P.info? el = some i ∧ i.zero = some z ∧ i.size = size ∧ z.cells.size = size ∧ i.bytes ≤ 1000 := by
  split at h
  · rename_i i hi
    split at h
    · rename_i z hz
      simp only [Bool.and_eq_true] at h
      exact ⟨i, z, hi, hz, Nat.eq_of_beq_eq_true h.1, Nat.eq_of_beq_eq_true h.2.1, Nat.le_of_ble_eq_true h.2.2⟩
    · cases h
  · cases h
theorem BldC.mk {zero : List Value} {ps : List (Nat × Nat × Value)} {k : Array Value → Prop} {cs : List Value} (hp : partsOk zero.length ps) (hc : splice zero ps = cs) (hk : k cs.toArray) : BldC zero ps k := ⟨hp, by rw [hc]; exact hk⟩
theorem addr_add2 (a : Addr) (m n : Nat) : (a.add m).add n = a.add (m + n) := by
  unfold Addr.add
  by_cases h : m = 0 <;> by_cases h' : n = 0 <;> simp [h, h', Nat.add_assoc]
end Go.Vc
namespace Go.Vc
open Go Go.RowKit
set_option linter.unusedSectionVars false
section frame
variable {S : Nat → Prop} {W0 W W' : World} {us rs us' rs' : List Res}
def foot (us : List Res) : Nat → Prop := fun b => ∃ (i : Nat) (r : Res), us[i]? = some r ∧ r.foot b
theorem Ow.loc (h : Ow S W0 W (us ++ rs)) : Ow (foot us) W W us :=
  ⟨Fr.refl _ _, fun i r hi => h.ok i r (by rw [List.getElem?_append_left (List.getElem?_eq_some_iff.1 hi).1]; exact hi),
   fun i r b hi hb => ⟨(h.lt i r b (by rw [List.getElem?_append_left (List.getElem?_eq_some_iff.1 hi).1]; exact hi) hb).1, .inl ⟨i, r, hi, hb⟩⟩,
   fun i j r r' b hi hj f1 f2 => h.dis i j r r' b (by rw [List.getElem?_append_left (List.getElem?_eq_some_iff.1 hi).1]; exact hi) (by rw [List.getElem?_append_left (List.getElem?_eq_some_iff.1 hj).1]; exact hj) f1 f2⟩
theorem app_at {i : Nat} {r : Res} (h : (us ++ rs)[i]? = some r) : (i < us.length ∧ us[i]? = some r) ∨ (us.length ≤ i ∧ rs[i - us.length]? = some r) := by
  rcases Nat.lt_or_ge i us.length with hi | hi
  · rw [List.getElem?_append_left hi] at h; exact .inl ⟨hi, h⟩
  · rw [List.getElem?_append_right hi] at h; exact .inr ⟨hi, h⟩
theorem at_right {i : Nat} {r : Res} (h : rs[i]? = some r) : (us ++ rs)[us.length + i]? = some r := by
  rw [List.getElem?_append_right (by omega), Nat.add_sub_cancel_left]; exact h
theorem at_left {i : Nat} {r : Res} (h : us[i]? = some r) : (us ++ rs)[i]? = some r := by
  rw [List.getElem?_append_left (List.getElem?_eq_some_iff.1 h).1]; exact h
theorem Ow.frame (h : Ow S W0 W (us ++ rs)) (k : Ow (foot us) W W' us') : Ow S W0 W' (us' ++ rs) := by
  have off : ∀ (j : Nat) (r : Res) (b : Nat), rs[j]? = some r → r.foot b → foot us b → False := fun j r b hj hb ⟨i, r', hi, hb'⟩ => by
    have := h.dis _ _ r' r b (at_left hi) (at_right hj) hb' hb
    have := (List.getElem?_eq_some_iff.1 hi).1
    omega
  have hz := k.fr.size
  have h0 := h.fr.size
  refine ⟨h.fr.trans' k.fr fun b hb hlt => ?_, fun i r hi => ?_, fun i r b hi hb => ?_, fun i j r r' b hi hj f1 f2 => ?_⟩
  · obtain ⟨i, r, hi, hf⟩ := hb
    exact (h.lt i r b (at_left hi) hf).2.resolve_right (by omega)
  · rcases app_at hi with ⟨_, hi⟩ | ⟨_, hi⟩
    · exact k.ok _ r hi
    · exact r.st k.fr (fun b hb hf => off _ r b hi hb hf) (h.ok _ r (at_right hi))
  · rcases app_at hi with ⟨_, hi⟩ | ⟨_, hi⟩
    · obtain ⟨h1, h2⟩ := k.lt _ r b hi hb
      refine ⟨h1, ?_⟩
      rcases h2 with ⟨j, r', hj, hf⟩ | h2
      · exact (h.lt j r' b (at_left hj) hf).2
      · exact .inr (by omega)
    · obtain ⟨h1, h2⟩ := h.lt _ r b (at_right hi) hb
      exact ⟨by omega, h2⟩
  · have cross : ∀ (i j : Nat) (r r' : Res), us'[i]? = some r → rs[j]? = some r' → r.foot b → r'.foot b → False := fun i j r r' hi hj f1 f2 => by
      rcases (k.lt i r b hi f1).2 with h2 | h2
      · exact off j r' b hj f2 h2
      · have := (h.lt _ r' b (at_right hj) f2).1; omega
    rcases app_at hi with ⟨hl, hi⟩ | ⟨hl, hi⟩ <;> rcases app_at hj with ⟨hl', hj⟩ | ⟨hl', hj⟩
    · exact k.dis i j r r' b hi hj f1 f2
    · exact (cross _ _ r r' hi hj f1 f2).elim
    · exact (cross _ _ r' r hj hi f2 f1).elim
    · have := h.dis _ _ r r' b (at_right hi) (at_right hj) f1 f2
      omega
theorem Ow.swap (h : Ow S W0 W (us ++ rs)) : Ow S W0 W (rs ++ us) := by
  have e : ∀ {i : Nat} {r : Res}, (rs ++ us)[i]? = some r → ∃ j, (us ++ rs)[j]? = some r ∧ j = if i < rs.length then us.length + i else i - rs.length := fun {i r} hi => by
    rcases app_at hi with ⟨hl, hi⟩ | ⟨hl, hi⟩
    · exact ⟨_, at_right hi, by rw [if_pos hl]⟩
    · exact ⟨_, at_left hi, by rw [if_neg (by omega)]⟩
  refine ⟨h.fr, fun i r hi => ?_, fun i r b hi hb => ?_, fun i j r r' b hi hj f1 f2 => ?_⟩
  · obtain ⟨j, hj, _⟩ := e hi; exact h.ok j r hj
  · obtain ⟨j, hj, _⟩ := e hi; exact h.lt j r b hj hb
  · obtain ⟨i', hi', e1⟩ := e hi
    obtain ⟨j', hj', e2⟩ := e hj
    have := h.dis i' j' r r' b hi' hj' f1 f2
    have hil : i < (rs ++ us).length := (List.getElem?_eq_some_iff.1 hi).1
    have hjl : j < (rs ++ us).length := (List.getElem?_eq_some_iff.1 hj).1
    rw [List.length_append] at hil hjl
    have hi2 : i' < (us ++ rs).length := (List.getElem?_eq_some_iff.1 hi').1
    rw [List.length_append] at hi2
    split at e1 <;> split at e2 <;> omega
theorem Ow.front (h : Ow S W0 W (us ++ rs)) : Ow S W0 W us :=
  ⟨h.fr, fun i r hi => h.ok i r (at_left hi), fun i r b hi => h.lt i r b (at_left hi), fun i j r r' b hi hj => h.dis i j r r' b (at_left hi) (at_left hj)⟩
theorem Ow.tail {r : Res} (h : Ow S W0 W (r :: rs)) : Ow S W0 W rs :=
  ⟨h.fr, fun i r' hi => h.ok (i + 1) r' (by simpa using hi), fun i r' b hi => h.lt (i + 1) r' b (by simpa using hi), fun i j r1 r2 b hi hj f1 f2 => by
    have := h.dis (i + 1) (j + 1) r1 r2 b (by simpa using hi) (by simpa using hj) f1 f2
    omega⟩
theorem Ow.callF {P : Program} {f : FuncId} {args : Array Value} {kp : List PanicEntry → World → Prop} {k : Value → World → Prop} {Q : Value → List Res → Prop} (h : Ow S W0 W (us ++ rs))
    (hg : Ow (foot us) W W us → Gives P f args W fun v W' => ∃ us', Q v us' ∧ Ow (foot us) W W' us') (hk : ∀ v us' W', Q v us' → Ow S W0 W' (us' ++ rs) → k v W') : CallK P f args W kp k :=
  CallK.mk (hg h.loc) fun v W' hv => by
    obtain ⟨us', hq, ho⟩ := hv
    exact hk v us' W' hq (h.frame ho)
theorem Ow.weak {i : Nat} {r : Res} (h : Ow S W0 W rs) (hi : rs[i]? = some r) (r' : Res) (ok : r.ok W → r'.ok W) (hf : ∀ b, r'.foot b → r.foot b) : Ow S W0 W (rs.set i r') :=
  h.upd hi (Fr.refl _ _) r' (ok (h.get i hi)) fun b hb => .inl (hf b hb)
end frame
end Go.Vc
namespace Go.Proofs.YtngecegnlhmnlaaGreatDoor.Fo
open Go Go.RowKit Go.Vc Go.Proofs.YtngecegnlhmnlaaGreatDoor.Fs
open Go.Sort (grow)
structure Vr (W : World) : Prop where
  ml : ∃ m, W.cell? ⟨0, 0, none⟩ = some (.int .i64 m)
  pow : Lib.TabIs Tryz.prog W "internal/strconv.uint64pow10" .u64 Lib.pow10Tab
  syn : ∃ tp p, W.var? Tryz.prog "strconv.ErrSyntax" = some #[.iface tp p]
  rng : ∃ tp p, W.var? Tryz.prog "strconv.ErrRange" = some #[.iface tp p]
theorem var_bel {P : Program} {n : String} {W W' : World} {x : Array Value} (h : W.var? P n = some x) (hb : Below W.heap.size W W') : W'.var? P n = some x := by
  unfold World.var? at *
  cases hg : P.globalNamed n with
  | none => rw [hg] at h; cases h
  | some g =>
    rw [hg] at h
    simp only [Option.bind_some] at h ⊢
    cases ho : W.heap[g]? with
    | none => rw [ho] at h; cases h
    | some o => rw [belowAt hb ho]; rw [ho] at h; exact h
theorem cell_bel {W W' : World} {a : Addr} {v : Value} (h : W.cell? a = some v) (hb : Below W.heap.size W W') : W'.cell? a = some v := by
  unfold World.cell? at *
  cases ho : W.heap[a.block]? with
  | none => rw [ho] at h; cases h
  | some o => rw [belowAt hb ho]; rw [ho] at h; exact h
theorem Vr.bel {W W' : World} (h : Vr W) (hb : Below W.heap.size W W') : Vr W' := by
  obtain ⟨⟨m, h1⟩, h2, ⟨t, p, h3⟩, ⟨t', p', h4⟩⟩ := h
  exact ⟨⟨m, cell_bel h1 hb⟩, var_bel h2 hb, ⟨t, p, var_bel h3 hb⟩, ⟨t', p', var_bel h4 hb⟩⟩
abbrev bs (l : List UInt8) : ByteArray := ⟨l.toArray⟩
theorem bs_data (s : ByteArray) : bs s.data.toList = s := by cases s; simp [bs]
theorem below_growN (W : World) (k : Nat) (os : Array Obj) : Below W.heap.size W (grow (W.drewN k) os) :=
  ⟨rfl, rfl, rfl, by simp [grow, World.drewN], fun j hj => by simp only [grow, World.drewN]; exact Array.getElem?_append_left hj⟩
theorem itoa_gives {W : World} (h : Vr W) {n : Int} (h0 : -9223372036854775808 ≤ n) (h1 : n ≤ 9223372036854775807) :
    Gives Tryz.prog 139 #[.int .i64 n] W fun v W' => v = .string (bs (Lib.itoa n)) ∧ Below W.heap.size W W' :=
  Calls.mono (Tryz.strconv_Itoa n h0 h1 W h.pow) fun e w' hh => by
    obtain ⟨he, k, os, rfl⟩ := hh
    exact ⟨_, he, rfl, below_growN W k os⟩
theorem atoi_gives {W : World} (h : Vr W) (s : ByteArray) (hs : s.size ≤ 281474976710656) :
    Gives Tryz.prog 200 #[.string s] W fun v W' => (∃ n e, v = .tuple #[.int .i64 n, e] ∧ ((Lib.atoiAll s.data.toList = .ok n ∧ e = .nilIface) ∨ ((∀ m, Lib.atoiAll s.data.toList ≠ .ok m) ∧ ∃ a b, e = .iface a b))) ∧ Below W.heap.size W W' := by
  obtain ⟨t, p, hsy⟩ := h.syn
  obtain ⟨t', p', hrg⟩ := h.rng
  rcases ha : Lib.atoiAll s.data.toList with n | _ | _
  · refine Calls.mono (Tryz.strconv_Atoi_ok s (by omega) n ha W) fun e w' hh => ?_
    obtain ⟨he, hw⟩ := hh
    refine ⟨_, he, ⟨n, _, rfl, .inl ⟨rfl, rfl⟩⟩, ?_⟩
    rcases hw with rfl | ⟨b, rfl⟩
    · exact Below.refl _ _
    · exact ⟨rfl, rfl, rfl, by rw [Lib.bytesWorld_size]; omega, fun j hj => Lib.bytesWorld_at_old W 5 b j hj⟩
  · refine Calls.mono (Tryz.strconv_Atoi_syntax_var s hs ha t p W hsy) fun e w' hh => ?_
    obtain ⟨N, he, _, _, hb⟩ := hh
    exact ⟨_, he, ⟨_, _, rfl, .inr ⟨fun m hm => (by cases hm), _, _, rfl⟩⟩, hb⟩
  · refine Calls.mono (Tryz.strconv_Atoi_range_var s hs ha t' p' W hrg) fun e w' hh => ?_
    obtain ⟨N, he, _, _, hb⟩ := hh
    exact ⟨_, he, ⟨_, _, rfl, .inr ⟨fun m hm => (by cases hm), _, _, rfl⟩⟩, hb⟩
def enStr (x : ByteArray) : List Value := [.string x]
theorem enStr_len (x : ByteArray) : (enStr x).length = 1 := rfl
theorem enStr_flat : ∀ l : List ByteArray, l.flatMap enStr = l.map Value.string
  | [] => rfl
  | x :: l => by rw [List.flatMap_cons, enStr_flat l]; rfl
theorem tStr : Tryz.prog.underlying 74 = some (.slice 9) := by kernel_rfl
theorem elStr : ElT Tryz.prog 74 9 1 enStr := ⟨enStr_len, fun a u hu => by
  obtain rfl : u = .string a := by simpa [enStr] using hu
  rfl, tStr, inf_of (by kernel_rfl), by decide⟩
end Go.Proofs.YtngecegnlhmnlaaGreatDoor.Fo
namespace Go.Proofs.YtngecegnlhmnlaaGreatDoor.Fo
open Go Go.RowKit Go.Vc Go.Proofs.YtngecegnlhmnlaaGreatDoor.Fs
def spl (c : UInt8) : List UInt8 → List (List UInt8)
  | [] => [[]]
  | b :: l => if b = c then [] :: spl c l else match spl c l with | x :: r => (b :: x) :: r | [] => [[b]]
theorem spl_ne (c : UInt8) : ∀ l, spl c l ≠ []
  | [] => by simp [spl]
  | b :: l => by
    unfold spl
    split
    · simp
    · split <;> simp
theorem spl_hit (c : UInt8) : ∀ (x r : List UInt8), c ∉ x → spl c (x ++ c :: r) = x :: spl c r
  | [], r, _ => by simp [spl]
  | b :: x, r, h => by
    have hb : b ≠ c := fun e => h (e ▸ List.mem_cons_self)
    have ih := spl_hit c x r fun hx => h (List.mem_cons_of_mem _ hx)
    rw [List.cons_append, spl, if_neg hb, ih]
theorem spl_miss (c : UInt8) : ∀ (x : List UInt8), c ∉ x → spl c x = [x]
  | [], _ => rfl
  | b :: x, h => by
    have hb : b ≠ c := fun e => h (e ▸ List.mem_cons_self)
    rw [spl, if_neg hb, spl_miss c x fun hx => h (List.mem_cons_of_mem _ hx)]
def jn (c : UInt8) : List (List UInt8) → List UInt8
  | [] => []
  | [x] => x
  | x :: r => x ++ c :: jn c r
theorem jn_cons (c : UInt8) (x : List UInt8) {r : List (List UInt8)} (h : r ≠ []) : jn c (x :: r) = x ++ c :: jn c r := by
  cases r with
  | nil => exact absurd rfl h
  | cons y r => rfl
theorem jn_spl (c : UInt8) : ∀ l, jn c (spl c l) = l
  | [] => rfl
  | b :: l => by
    have ih := jn_spl c l
    unfold spl
    split
    · rename_i hb
      rw [jn_cons c [] (spl_ne c l), ih, hb]; rfl
    · cases hs : spl c l with
      | nil => exact absurd hs (spl_ne c l)
      | cons x r =>
        rw [hs] at ih
        dsimp only
        cases r with
        | nil => rw [jn] at ih ⊢; rw [ih]
        | cons y r => rw [jn_cons c _ (by simp)] at ih ⊢; rw [List.cons_append, ih]
theorem jn_join (c : UInt8) : ∀ xs : List (List UInt8), Lib.join xs [c] = jn c xs
  | [] => rfl
  | [x] => by simp [Lib.join, jn, List.intercalate]
  | x :: y :: r => by
    have ih := jn_join c (y :: r)
    rw [jn_cons c x (by simp), ← ih]
    simp [Lib.join, List.intercalate]
theorem splitK_spl (c : UInt8) : ∀ (k : Nat) (l : List UInt8), l.count c = k → Lib.splitK [c] 0 k l = spl c l
  | 0, l, h => by
    have hn : c ∉ l := List.count_eq_zero.1 h
    rw [spl_miss c l hn]; rfl
  | k + 1, l, h => by
    have hm : c ∈ l := List.count_pos_iff.1 (by omega)
    have hi : Lib.index l [c] ≠ -1 := fun e => by
      rw [Lib.index_one] at e
      obtain ⟨j, hj⟩ := List.getElem?_of_mem hm
      exact Lib.indexByte_none e j hj
    have hge := Lib.index_ge l [c]
    obtain ⟨i, hi'⟩ : ∃ i : Nat, Lib.index l [c] = (i : Int) := ⟨(Lib.index l [c]).toNat, by omega⟩
    have hib := hi'
    rw [Lib.index_one] at hib
    obtain ⟨h1, h2⟩ := Lib.indexByte_some hib
    have hlt := (List.getElem?_eq_some_iff.1 h1).1
    have hl : l = l.take i ++ c :: l.drop (i + 1) := by
      have e := List.getElem?_eq_some_iff.1 h1
      conv => lhs; rw [← List.take_append_drop i l, List.drop_eq_getElem_cons hlt, e.2]
    have hx : c ∉ l.take i := fun hx => by
      obtain ⟨j, hj⟩ := List.getElem?_of_mem hx
      have hji : j < i := by have := (List.getElem?_eq_some_iff.1 hj).1; simp at this; omega
      rw [List.getElem?_take_of_lt hji] at hj
      exact h2 j hji hj
    have hc : (l.drop (i + 1)).count c = k := by
      have := congrArg (List.count c) hl
      rw [h, List.count_append, List.count_eq_zero.2 hx, List.count_cons_self] at this
      omega
    unfold Lib.splitK
    rw [if_neg (by simpa using hi), hi']
    simp only [Int.toNat_natCast, List.length_singleton, Nat.add_zero]
    rw [splitK_spl c k _ hc]
    conv => rhs; rw [hl, spl_hit c _ _ hx]
end Go.Proofs.YtngecegnlhmnlaaGreatDoor.Fo
namespace Go.Proofs.YtngecegnlhmnlaaGreatDoor.Fo
open Go Go.RowKit Go.Vc Go.Proofs.YtngecegnlhmnlaaGreatDoor.Fs
theorem strR {W : World} {g : Nat} {l : List ByteArray} (hg : W.heap[g]? = some (.cells (l.map Value.string).toArray 9 (0, 0))) (hl : l.length ≤ maxLen) : SlR W 9 1 enStr (.slice (some ⟨g, 0, none⟩) l.length l.length) l := by
  have e := enStr_flat l
  exact SlR.mk enStr_len hg (Nat.le_refl _) hl (by simp) (by rw [e, List.toList_toArray, Nat.mul_one, List.take_of_length_le (by simp)])
theorem split_gives {W : World} (h : Vr W) (s : ByteArray) (hs : s.size < 4294967281) :
    Gives Tryz.prog 66 #[.string s, .string ⟨#[46]⟩] W fun v W' => NewSl W 9 1 enStr ((spl 46 s.data.toList).map bs) v W' ∧ Below W.heap.size W W' := by
  obtain ⟨m, hm⟩ := h.ml
  refine Calls.mono (Tryz.strings_Split s ⟨#[46]⟩ m W hs hm (by decide)) fun e w' hh => ?_
  obtain ⟨he, rfl⟩ := hh
  have hd : (Lib.splitB ⟨#[46]⟩ 0 (Lib.countB s ⟨#[46]⟩) s) = (spl 46 s.data.toList).map bs := by
    have h1 := Lib.splitB_data ⟨#[46]⟩ 0 (Lib.countB s ⟨#[46]⟩) s
    have h2 : Lib.countB s ⟨#[46]⟩ = s.data.toList.count 46 := Lib.count_one 46 s.data.toList
    have h3 : Lib.splitK [46] 0 (Lib.countB s ⟨#[46]⟩) s.data.toList = spl 46 s.data.toList := splitK_spl 46 _ _ h2.symm
    have h4 : (Lib.splitB ⟨#[46]⟩ 0 (Lib.countB s ⟨#[46]⟩) s).map (·.data.toList) = spl 46 s.data.toList := h1.trans h3
    rw [← h4, List.map_map]
    conv => lhs; rw [← List.map_id (Lib.splitB ⟨#[46]⟩ 0 (Lib.countB s ⟨#[46]⟩) s)]
    exact List.map_congr_left fun x _ => (bs_data x).symm
  have hlen : Lib.countB s ⟨#[46]⟩ + 1 = ((spl 46 s.data.toList).map bs).length := by
    rw [← hd]; exact (Lib.splitB_all ⟨#[46]⟩ (by decide) 0 _ s rfl).symm
  have hle : Lib.countB s ⟨#[46]⟩ ≤ s.size := Lib.countB_le ⟨#[46]⟩ (by decide) s.size s (Nat.le_refl _)
  rw [hlen] at he
  rw [hd]
  have hmx : (4294967290 : Nat) ≤ maxLen := by decide
  refine ⟨_, he, ⟨_, _, rfl, strR (l := (spl 46 s.data.toList).map bs) alloc_same (by rw [← hlen]; omega), fun g hg => by cases hg; exact Nat.le_refl _⟩, (Below.refl _ W).alloc (Nat.le_refl _) _⟩
theorem jn_len (c : UInt8) : ∀ l : List (List UInt8), l.length ≤ (jn c l).length + 1
  | [] => by simp
  | [x] => by simp
  | x :: y :: r => by
    have ih := jn_len c (y :: r)
    rw [jn_cons c x (by simp)]
    simp only [List.length_cons, List.length_append] at ih ⊢
    omega
theorem join_gives {W : World} {l : List ByteArray} {a : Option Addr} {c : Nat} (hs : SlR W 9 1 enStr (.slice a l.length c) l) (hne : l ≠ []) (hl : (jn 46 (l.map (·.data.toList))).length ≤ 10000000) :
    Gives Tryz.prog 55 #[.slice a l.length c, .string ⟨#[46]⟩] W fun v W' => v = .string (bs (jn 46 (l.map (·.data.toList)))) ∧ Below W.heap.size W W' := by
  obtain ⟨g, cap, cur, hv, hg, h1, h2, h3, h4⟩ := hs.cells hne
  cases hv
  have hlt := heap_lt hg
  rw [enStr_flat] at h4
  refine Calls.mono (Tryz.strings_Join g 0 c l ⟨#[46]⟩ W (fun j x hx => ?_) hlt (by
    have := jn_len 46 (l.map (·.data.toList))
    rw [List.length_map] at this
    omega) h1 (by rw [show ((⟨#[46]⟩ : ByteArray).data.toList) = [46] from rfl, jn_join]; omega)) fun e w' hh => ?_
  · rw [Nat.zero_add]
    refine cell_of hg ?_
    have := congrArg (fun m => m[j]?) h4
    simp only [List.getElem?_map, hx, Option.map_some] at this
    rw [List.getElem?_take] at this
    split at this
    · simpa using this
    · cases this
  · obtain ⟨he, hb⟩ := hh
    refine ⟨_, he, ?_, hb⟩
    rw [show ((⟨#[46]⟩ : ByteArray).data.toList) = [46] from rfl, jn_join]
theorem nil_iface_eql {P : Program} {t : TypeId} {ms : Array (String × TypeId)} (ht : P.underlying t = some (.interface ms)) {x : Operand} {v : Value} {k : Value → Prop} (hv : v = .nilIface ∨ ∃ a b, v = .iface a b) (hk : ∀ r : Bool, (r = true ↔ v = .nilIface) → k (.bool r)) : RunP P (binRun .eql t x (.const .nilIface) v .nilIface) k := by
  rcases hv with rfl | ⟨a, b, rfl⟩
  · refine ⟨_, fun w => ?_, hk true (by simp)⟩
    have : (Op.equalIn 10000 t .nilIface .nilIface).run P w = .ok true w := by unfold Op.equalIn; simp [run_underlying' ht]
    simp [binRun, eqGuard, binOp, Op.equal, Op.maxDepth, this]
  · refine ⟨_, fun w => ?_, hk false (by simp)⟩
    have : (Op.equalIn 10000 t (.iface a b) .nilIface).run P w = .ok false w := by unfold Op.equalIn; simp [run_underlying' ht]
    simp [binRun, eqGuard, binOp, Op.equal, Op.maxDepth, this]
def dd (m : Nat) : List UInt8 := if m < 10 then [UInt8.ofNat (48 + m)] else if m < 100 then [UInt8.ofNat (48 + m / 10), UInt8.ofNat (48 + m % 10)] else [UInt8.ofNat (48 + m / 100), UInt8.ofNat (48 + m / 10 % 10), UInt8.ofNat (48 + m % 10)]
theorem dd_eq {m : Nat} (h : m < 1000) : Lib.decDigits m = dd m := by
  unfold dd
  split
  · rename_i h1
    rw [Lib.decDigits, dif_pos h1]
  · rename_i h1
    rw [Lib.decDigits, dif_neg h1]
    split
    · rename_i h2
      rw [Lib.decDigits, dif_pos (by omega)]; rfl
    · rename_i h2
      rw [Lib.decDigits, dif_neg (by omega), Lib.decDigits, dif_pos (by omega), Nat.div_div_eq_div_mul]; rfl
theorem dd_table : ((List.range 256).all fun m => decide (Lib.atoiAll (dd m) = .ok (m : Int))) = true := by kernel_rfl
theorem atoi_dd {m : Nat} (h : m < 256) : Lib.atoiAll (dd m) = .ok (m : Int) := of_decide_eq_true (List.all_eq_true.1 dd_table m (List.mem_range.2 h))
theorem dd_inj {m n : Nat} (hm : m < 256) (hn : n < 256) (h : dd m = dd n) : m = n := by
  have := atoi_dd hm
  rw [h, atoi_dd hn] at this
  cases this; rfl
def octOf (l : List UInt8) : Option Nat := (List.range 256).find? fun m => decide (dd m = l)
theorem octOf_some {l : List UInt8} {n : Nat} : octOf l = some n ↔ n < 256 ∧ dd n = l := by
  unfold octOf
  constructor
  · intro h
    have h1 := List.find?_some h
    exact ⟨List.mem_range.1 (List.mem_of_find?_eq_some h), by simpa using h1⟩
  · rintro ⟨h1, rfl⟩
    cases hf : (List.range 256).find? fun m => decide (dd m = dd n) with
    | none => exact absurd (List.find?_eq_none.1 hf n (List.mem_range.2 h1)) (by simp)
    | some m =>
      have h2 := List.find?_some hf
      have h3 := List.mem_range.1 (List.mem_of_find?_eq_some hf)
      rw [dd_inj h3 h1 (by simpa using h2)]
theorem str_beq (a b : ByteArray) : (ByteArray.toList a == ByteArray.toList b) = decide (a.data.toList = b.data.toList) := by
  rw [ByteArray.toList_eq, ByteArray.toList_eq, Bool.eq_iff_iff, beq_iff_eq, decide_eq_true_eq]
theorem tErr : ∃ ms, Tryz.prog.underlying 86 = some (.interface ms) := by
  have h : (match Tryz.prog.underlying 86 with | some (.interface ms) => true | _ => false) = true := by kernel_rfl
  split at h
  · rename_i ms e; exact ⟨ms, e⟩
  · cases h
theorem octet_gives {W : World} (h : Vr W) (s : ByteArray) (hs : s.size ≤ 281474976710656) :
    Gives Tryz.prog 172 #[.string s] W fun v W' => (∃ x : Int, v = .tuple #[.int .u8 x, .bool (octOf s.data.toList).isSome] ∧ ∀ n, octOf s.data.toList = some n → x = (n : Int)) ∧ Below W.heap.size W W' := F172_fn (by
  unfold F172
  obtain ⟨ms, tE⟩ := tErr
  have hS := Ow.start NoS W
  refine hS.call (atoi_gives h s hs) ?_
  rintro _ W1 ⟨n, e, rfl, hc⟩ hS
  refine AsT2.mk (AsI.mk (nil_iface_eql tE (by rcases hc with ⟨_, rfl⟩ | ⟨_, hab⟩ <;> first | exact .inl rfl | exact .inr hab) fun r hr => AsB.mk (Join.use fun J hJ => ?_)))
  have fin : ∀ (b : Bool) (W' : World), Ow NoS W W' [] → (b = true ↔ Lib.atoiAll s.data.toList = .ok n ∧ 0 ≤ n ∧ n ≤ 255 ∧ Lib.itoa n = s.data.toList) → (∃ x : Int, (Value.tuple #[.int .u8 (IntKind.u8.wrap n), .bool b]) = .tuple #[.int .u8 x, .bool (octOf s.data.toList).isSome] ∧ ∀ n, octOf s.data.toList = some n → x = (n : Int)) ∧ Below W.heap.size W W' := fun b W' hS hb => by
    have key : ∀ m : Nat, octOf s.data.toList = some m → n = (m : Int) ∧ b = true := fun m hm => by
      obtain ⟨h1, h2⟩ := octOf_some.1 hm
      have h3 := atoi_dd h1
      rw [h2] at h3
      rcases hc with ⟨h4, _⟩ | ⟨h4, _⟩
      · rw [h4] at h3; cases h3
        refine ⟨rfl, hb.2 ⟨h4, by omega, by omega, ?_⟩⟩
        unfold Lib.itoa
        rw [if_neg (by omega), Int.toNat_natCast, dd_eq (by omega), h2]
      · exact absurd h3 (h4 _)
    refine ⟨⟨IntKind.u8.wrap n, ?_, fun m hm => ?_⟩, hS.bel⟩
    · have : (octOf s.data.toList).isSome = b := by
        cases hb1 : b with
        | true =>
          obtain ⟨_, h1, h2, h3⟩ := hb.1 hb1
          have : octOf s.data.toList = some n.toNat := octOf_some.2 ⟨by omega, by
            rw [← h3]; unfold Lib.itoa
            rw [if_neg (by omega), dd_eq (by omega)]⟩
          rw [this]; rfl
        | false =>
          cases ho : octOf s.data.toList with
          | none => rfl
          | some m => have := (key m ho).2; rw [hb1] at this; cases this
      rw [this]
    · obtain ⟨h1, _⟩ := key m hm
      have h2 := (octOf_some.1 hm).1
      subst h1
      have e : IntKind.u8.wrap (m : Int) = (m : Int) := by
        have : IntKind.u8.wrap (m : Int) = (m : Int) % 256 := rfl
        rw [this]; omega
      exact e
  have no : ∀ W', Ow NoS W W' [] → ¬ (Lib.atoiAll s.data.toList = .ok n ∧ 0 ≤ n ∧ n ≤ 255 ∧ Lib.itoa n = s.data.toList) → J false W' := fun W' hS hn => by
    rw [hJ]; dsimp only
    refine Join.use fun J1 hJ1 => If.neg rfl ?_
    rw [hJ1]; dsimp only
    refine Join.use fun J2 hJ2 => If.neg rfl ?_
    rw [hJ2]
    exact fin false W' hS ⟨fun h => (by cases h), fun h => absurd h hn⟩
  have okn : r = true → Lib.atoiAll s.data.toList = .ok n := fun h1 => by
    rcases hc with ⟨h4, _⟩ | ⟨_, a, b, hab⟩
    · exact h4
    · rw [hr.1 h1] at hab; cases hab
  refine If.split (fun h1 => ?_) fun h1 => no W1 hS fun hh => ?_
  · have ho := okn h1
    by_cases h0 : n ≥ 0
    · rw [decide_eq_true h0, hJ]; dsimp only
      refine Join.use fun J1 hJ1 => If.pos rfl ?_
      have no1 : ∀ W', Ow NoS W W' [] → ¬ (n ≤ 255 ∧ Lib.itoa n = s.data.toList) → J1 false W' := fun W' hS hn => by
        rw [hJ1]; dsimp only
        refine Join.use fun J2 hJ2 => If.neg rfl ?_
        rw [hJ2]
        exact fin false W' hS ⟨fun h => (by cases h), fun h => absurd h.2.2 hn⟩
      by_cases h2 : n ≤ 255
      · rw [decide_eq_true h2, hJ1]; dsimp only
        refine Join.use fun J2 hJ2 => If.pos rfl ?_
        refine hS.callv (itoa_gives (h.bel hS.bel) (by omega) (by omega)) fun W2 hS => AsS.mk ?_
        rw [str_beq, hJ2]
        refine fin _ W2 hS ?_
        rw [decide_eq_true_eq]
        have : (bs (Lib.itoa n)).data.toList = Lib.itoa n := by simp
        rw [this]
        exact ⟨fun h => ⟨ho, h0, h2, h⟩, fun h => h.2.2.2⟩
      · rw [decide_eq_false h2]; exact no1 W1 hS fun h => h2 h.1
    · rw [decide_eq_false h0]; exact no W1 hS fun h => h0 h.2.1
  · rcases hc with ⟨_, he⟩ | ⟨h4, _⟩
    · rw [hr.2 he] at h1; cases h1
    · exact h4 _ hh.1)
end Go.Proofs.YtngecegnlhmnlaaGreatDoor.Fo
namespace Go.Proofs.YtngecegnlhmnlaaGreatDoor.Fo
open Go Go.RowKit Go.Vc Go.Proofs.YtngecegnlhmnlaaGreatDoor.Fs
def oct4 (a : Nat) : List Nat := [a / 16777216 % 256, a / 65536 % 256, a / 256 % 256, a % 256]
def enB (l : List Nat) : List Value := l.map fun n : Nat => Value.int .u8 (n : Int)
theorem w8 (a : Nat) : IntKind.u8.wrap (a : Int) = ((a % 256 : Nat) : Int) := by
  have : IntKind.u8.wrap (a : Int) = (a : Int) % 256 := rfl
  rw [this]; omega
theorem w32 (a : Nat) : IntKind.u32.wrap (a : Int) = ((a % 4294967296 : Nat) : Int) := by
  have : IntKind.u32.wrap (a : Int) = (a : Int) % 4294967296 := rfl
  rw [this]; omega
theorem fd (a k : Nat) (hk : 0 < k) : Int.fdiv (a : Int) (k : Int) = ((a / k : Nat) : Int) := by
  rw [Int.fdiv_eq_ediv_of_nonneg _ (by omega)]; rfl
theorem bytes_gives (a : Nat) (W : World) : Gives Tryz.prog 138 #[.int .u32 (a : Int)] W fun v W' => v = .agg (enB (oct4 a)).toArray ∧ Below W.heap.size W W' := F138_fn (by
  unfold F138
  have hS := Ow.start NoS W
  have e1 : IntKind.u8.wrap (Int.fdiv (a : Int) (2 ^ (min (Int.toNat 24) (IntKind.u32).bits))) = ((a / 16777216 % 256 : Nat) : Int) := by
    have : (2 ^ (min (Int.toNat 24) (IntKind.u32).bits) : Int) = ((16777216 : Nat) : Int) := by decide
    rw [this, fd a _ (by decide), w8]
  have e2 : IntKind.u8.wrap (Int.fdiv (a : Int) (2 ^ (min (Int.toNat 16) (IntKind.u32).bits))) = ((a / 65536 % 256 : Nat) : Int) := by
    have : (2 ^ (min (Int.toNat 16) (IntKind.u32).bits) : Int) = ((65536 : Nat) : Int) := by decide
    rw [this, fd a _ (by decide), w8]
  have e3 : IntKind.u8.wrap (Int.fdiv (a : Int) (2 ^ (min (Int.toNat 8) (IntKind.u32).bits))) = ((a / 256 % 256 : Nat) : Int) := by
    have : (2 ^ (min (Int.toNat 8) (IntKind.u32).bits) : Int) = ((256 : Nat) : Int) := by decide
    rw [this, fd a _ (by decide), w8]
  rw [e1, e2, e3, w8 a]
  refine hS.new fun b2 W1 hS => ⟨by decide, by decide, by decide, BldC.mk (cs := enB (oct4 a)) ⟨rfl, by decide, rfl, by decide, rfl, by decide, rfl, by decide, trivial⟩ rfl (hS.stw 0 rfl (cs := enB (oct4 a)) rfl rfl rfl fun W2 hS => hS.ldw 0 rfl (show (enB (oct4 a)).length = 4 from rfl) ⟨rfl, hS.bel⟩)⟩)
def ofB (l : List Nat) : Nat := l.foldl (fun a c => a * 256 + c) 0
theorem or_step {x y : Nat} (hx : x < 16777216) (hy : y < 256) :
    IntKind.u32.wrap ((((BitVec.ofInt (IntKind.u32).bits (IntKind.u32.wrap ((x : Int) * 2 ^ (min (Int.toNat 8) (IntKind.u32).bits)))) ||| (BitVec.ofInt (IntKind.u32).bits (IntKind.u32.wrap (y : Int)))).toNat : Int)) = ((x * 256 + y : Nat) : Int) := by
  have e1 : ((x : Int) * 2 ^ (min (Int.toNat 8) (IntKind.u32).bits)) = ((x * 256 : Nat) : Int) := by
    have : (2 ^ (min (Int.toNat 8) (IntKind.u32).bits) : Int) = ((256 : Nat) : Int) := by decide
    rw [this]; omega
  have w1 : IntKind.u32.wrap ((x * 256 : Nat) : Int) = ((x * 256 : Nat) : Int) := by rw [w32, Nat.mod_eq_of_lt (by omega)]
  have w2 : IntKind.u32.wrap (y : Int) = (y : Int) := by rw [w32, Nat.mod_eq_of_lt (by omega)]
  rw [e1, w1, w2]
  have b : (IntKind.u32).bits = 32 := rfl
  rw [b]
  have e2 : ∀ n : Nat, BitVec.ofInt 32 (n : Int) = BitVec.ofNat 32 n := fun n => by
    apply BitVec.eq_of_toNat_eq
    rw [BitVec.toNat_ofInt, BitVec.toNat_ofNat]
    omega
  rw [e2, e2, BitVec.toNat_or, BitVec.toNat_ofNat, BitVec.toNat_ofNat, Nat.mod_eq_of_lt (by omega), Nat.mod_eq_of_lt (by omega), w32]
  have e3 := Nat.shiftLeft_add_eq_or_of_lt (i := 8) (b := y) (by omega) x
  rw [Nat.shiftLeft_eq] at e3
  have e4 : x * 256 ||| y = x * 256 + y := e3.symm
  rw [e4, Nat.mod_eq_of_lt (by omega)]
theorem of_gives (l : List Nat) (hl : l.length = 4) (hb : ∀ n ∈ l, n < 256) (W : World) : Gives Tryz.prog 173 #[.agg (enB l).toArray] W fun v W' => v = .int .u32 (ofB l : Int) ∧ Below W.heap.size W W' := F173_fn (by
  unfold F173
  have hS := Ow.start NoS W
  have hen : (enB l).length = 4 := by unfold enB; rw [List.length_map, hl]
  refine hS.new fun b1 W1 hS => hS.ldw 0 rfl hen ?_
  have bound : ∀ j, j ≤ 4 → ofB (l.take j) < 256 ^ j := fun j hj => by
    induction j with
    | zero => simp [ofB]
    | succ j ih =>
      have hlt : j < l.length := by omega
      have h1 := ih (by omega)
      have e : ofB (l.take (j + 1)) = ofB (l.take j) * 256 + l[j] := by
        rw [List.take_succ_eq_append_getElem hlt]; unfold ofB; rw [List.foldl_append]; rfl
      have h2 := hb l[j] (List.getElem_mem hlt)
      rw [e, Nat.pow_succ]; omega
  refine Lp.of (fun j : Nat => [.int .u32 (ofB (l.take j) : Int), .int .i64 (j : Int)]) (fun j W' => j ≤ 4 ∧ Ow NoS W W' [.cl b1 (enB l) 165]) (fun j => 4 - j) 0 rfl ⟨by omega, hS⟩ ?_
  rintro j W2 k ⟨hj, hS⟩ hk
  refine AsI.mk (AsI.mk (If.dec (fun hlt => ?_) fun hge => ?_))
  · have hlt' : j < 4 := by have : (j : Int) < 4 := hlt; omega
    have hjl : j < l.length := by omega
    have e : ofB (l.take (j + 1)) = ofB (l.take j) * 256 + l[j] := by
      rw [List.take_succ_eq_append_getElem hjl]; unfold ofB; rw [List.foldl_append]; rfl
    have h2 := hb l[j] (List.getElem_mem hjl)
    have hge : (enB l)[j]? = some (.int .u8 (l[j] : Int)) := by unfold enB; rw [List.getElem?_map, List.getElem?_eq_getElem hjl]; rfl
    have hbd : ofB (l.take j) < 16777216 := by
      have := bound j hj
      have h3 : j = 0 ∨ j = 1 ∨ j = 2 ∨ j = 3 := by omega
      rcases h3 with rfl | rfl | rfl | rfl <;> omega
    refine ⟨by omega, by omega, ?_⟩
    rw [Int.toNat_natCast]
    dsimp only
    rw [Nat.mul_one]
    refine ⟨_, by simpa using hge, AsI.mk ⟨by decide, ?_⟩⟩
    rw [or_step hbd h2]
    have es : IntKind.i64.wrap ((j : Int) + 1) = ((j + 1 : Nat) : Int) := by rw [wrap_i64] <;> omega
    rw [es, ← e]
    exact hk (j + 1) W2 ⟨hlt', hS⟩ (by omega)
  · have hge' : ¬ (j : Int) < 4 := hge
    have : l.take j = l := List.take_of_length_le (by omega)
    rw [this]
    exact ⟨rfl, hS.bel⟩)
theorem ofB_oct4 {a : Nat} (h : a < 4294967296) : ofB (oct4 a) = a := by
  unfold ofB oct4
  simp only [List.foldl_cons, List.foldl_nil]
  omega
end Go.Proofs.YtngecegnlhmnlaaGreatDoor.Fo
namespace Go.Proofs.YtngecegnlhmnlaaGreatDoor.Si
open Go Go.RowKit Go.Vc Go.Proofs.YtngecegnlhmnlaaGreatDoor.Fs Go.Proofs.YtngecegnlhmnlaaGreatDoor.Fo
def enW (x : Nat × Nat) : List Value := [.int .u64 (x.1 : Int), .int .u64 (x.2 : Int)]
def enG (l : List Nat) : List Value := l.map fun n : Nat => Value.int .u16 (n : Int)
theorem w16 (a : Nat) : IntKind.u16.wrap (a : Int) = ((a % 65536 : Nat) : Int) := by
  have : IntKind.u16.wrap (a : Int) = (a : Int) % 65536 := rfl
  rw [this]; omega
theorem w64 (a : Nat) : IntKind.u64.wrap (a : Int) = ((a % 18446744073709551616 : Nat) : Int) := by
  have : IntKind.u64.wrap (a : Int) = (a : Int) % 18446744073709551616 := rfl
  rw [this]; omega
theorem wOf_gives (x : Nat) (W : World) : Gives Tryz.prog 103 #[.int .u64 (x : Int)] W fun v W' => v = .agg (enW (0, x)).toArray ∧ Below W.heap.size W W' := F103_fn (by
  unfold F103
  have hS := Ow.start NoS W
  refine hS.new fun b2 W1 hS => BldC.mk (cs := enW (0, x)) ⟨rfl, by decide, trivial⟩ rfl (hS.stw 0 rfl (cs := enW (0, x)) rfl rfl rfl fun W2 hS => hS.ldw 0 rfl (show (enW (0, x)).length = 2 from rfl) ⟨rfl, hS.bel⟩))
theorem or0 (a b : Nat) (ha : a < 18446744073709551616) (hb : b < 18446744073709551616) : IntKind.u64.wrap ((((BitVec.ofInt (IntKind.u64).bits (a : Int)) ||| (BitVec.ofInt (IntKind.u64).bits (b : Int))).toNat : Int)) = ((a ||| b : Nat) : Int) := by
  have e2 : ∀ n : Nat, n < 18446744073709551616 → (BitVec.ofInt (IntKind.u64).bits (n : Int)).toNat = n := fun n h => by
    have b : (IntKind.u64).bits = 64 := rfl
    rw [b, BitVec.toNat_ofInt]
    omega
  rw [BitVec.toNat_or, e2 a ha, e2 b hb, w64]
  have : a ||| b < 2 ^ 64 := Nat.or_lt_two_pow (by omega) (by omega)
  rw [Nat.mod_eq_of_lt (by omega)]
theorem wOr_gives {x y : Nat × Nat} (h1 : x.1 < 18446744073709551616) (h2 : x.2 < 18446744073709551616) (h3 : y.1 < 18446744073709551616) (h4 : y.2 < 18446744073709551616) (W : World) :
    Gives Tryz.prog 203 #[.agg (enW x).toArray, .agg (enW y).toArray] W fun v W' => v = .agg (enW (x.1 ||| y.1, x.2 ||| y.2)).toArray ∧ Below W.heap.size W W' := F203_fn (by
  unfold F203
  have hS := Ow.start NoS W
  refine hS.new fun b1 W1 hS => hS.new fun b2 W2 hS => hS.new fun b3 W3 hS => ?_
  refine hS.ld 2 rfl rfl (AsI.mk ?_)
  refine hS.ld 1 rfl rfl (AsI.mk ?_)
  refine hS.ldA 2 rfl rfl (AsI.mk ?_)
  refine hS.ldA 1 rfl rfl (AsI.mk ?_)
  rw [or0 _ _ h1 h3, or0 _ _ h2 h4]
  exact BldC.mk (cs := enW (x.1 ||| y.1, x.2 ||| y.2)) ⟨rfl, by decide, rfl, by decide, trivial⟩ rfl (hS.stw 0 rfl (cs := enW (x.1 ||| y.1, x.2 ||| y.2)) rfl rfl rfl fun W4 hS => hS.ldw 0 rfl (show (enW (x.1 ||| y.1, x.2 ||| y.2)).length = 2 from rfl) ⟨rfl, hS.bel⟩))
theorem left16_gives (x : Nat × Nat) (h2 : x.2 < 18446744073709551616) (W : World) :
    Gives Tryz.prog 174 #[.agg (enW x).toArray, .int .i64 16] W fun v W' => v = .agg (enW (x.1 * 65536 % 18446744073709551616 ||| x.2 / 281474976710656, x.2 * 65536 % 18446744073709551616)).toArray ∧ Below W.heap.size W W' := F174_fn (by
  unfold F174
  have hS := Ow.start NoS W
  have p16 : (2 ^ (min (Int.toNat 16) (IntKind.u64).bits) : Int) = ((65536 : Nat) : Int) := by decide
  have p48 : (2 ^ (min (Int.toNat (IntKind.i64.wrap (64 - 16))) (IntKind.u64).bits) : Int) = ((281474976710656 : Nat) : Int) := by kernel_rfl
  have e1 : IntKind.u64.wrap ((x.1 : Int) * 2 ^ (min (Int.toNat 16) (IntKind.u64).bits)) = ((x.1 * 65536 % 18446744073709551616 : Nat) : Int) := by
    rw [p16, ← Int.natCast_mul, w64]
  have e3 : IntKind.u64.wrap ((x.2 : Int) * 2 ^ (min (Int.toNat 16) (IntKind.u64).bits)) = ((x.2 * 65536 % 18446744073709551616 : Nat) : Int) := by
    rw [p16, ← Int.natCast_mul, w64]
  have e2 : Int.fdiv (x.2 : Int) (2 ^ (min (Int.toNat (IntKind.i64.wrap (64 - 16))) (IntKind.u64).bits)) = ((x.2 / 281474976710656 : Nat) : Int) := by
    rw [p48, fd _ _ (by decide)]
  refine hS.new fun b1 W1 hS => hS.new fun b2 W2 hS => If.neg rfl (If.neg rfl (If.neg rfl ?_))
  refine hS.ld 1 rfl rfl (AsI.mk ⟨by decide, ?_⟩)
  refine hS.ldA 1 rfl rfl (AsI.mk ⟨by decide, ?_⟩)
  refine hS.ldA 1 rfl rfl (AsI.mk (hS.any fun W3 hS => ⟨by decide, ?_⟩))
  rw [e1, e2, e3, or0 _ _ (Nat.mod_lt _ (by decide)) (by omega)]
  exact BldC.mk (cs := enW (x.1 * 65536 % 18446744073709551616 ||| x.2 / 281474976710656, x.2 * 65536 % 18446744073709551616)) ⟨rfl, by decide, rfl, by decide, trivial⟩ rfl (hS.stw 0 rfl (cs := enW (x.1 * 65536 % 18446744073709551616 ||| x.2 / 281474976710656, x.2 * 65536 % 18446744073709551616)) rfl rfl rfl fun W4 hS => hS.ldw 0 rfl rfl ⟨rfl, hS.bel⟩))
theorem pow2_gives (W : World) : Gives Tryz.prog 239 #[.int .i64 16] W fun v W' => v = .bool true ∧ W' = W := F239_fn (by
  unfold F239
  exact ⟨by kernel_rfl, rfl⟩)
end Go.Proofs.YtngecegnlhmnlaaGreatDoor.Si
