/- A region that draws its order: its tail, with operations of the first part that come late. -/
import Derived.Test.YtmhmlneobbgadaaGreatDoorVcFa
namespace Go.Vc
open Go Go.RowKit

theorem isLoad_cls {P : Program} {op : Op} (h : isLoad op = true) : cls P op = 1 := by
  unfold isLoad at h
  split at h
  · rfl
  · cases h
theorem floatB_spec {P : Program} {o : Oper} (h : floatB P o = true) : o.guard = none ∧ isAl P o = false ∧ isSelect o.op = false ∧ (cls P o.op = 0 ∨ (isLoad o.op = true ∧ ∃ d, o.dst = some d)) := by
  unfold floatB at h
  split at h
  · cases h
  · rename_i hg
    split at h
    · cases h
    · rename_i hal
      split at h
      · cases h
      · rename_i hs
        split at h
        · rename_i hc; exact ⟨hg, hal, hs, .inl hc⟩
        · split at h
          · rename_i d hd; exact ⟨hg, hal, hs, .inr ⟨h, d, hd⟩⟩
          · cases h
theorem run_load_row {P : Program} {t : TypeId} {d : TypeDesc} {w : World} {a : Addr} {cs : Array Value} (ht : P.underlying t = some d) (hag : aggSize P t = some (P.cellsOf t)) (hsz : cs.size = P.cellsOf t) (hrow : Row w a cs.toList) :
    (loadVar t a).run P w = .ok (.agg cs) w := by
  have h1 := run_loadCells (P := P) hrow
  rw [show cs.toList.length = P.cellsOf t by simpa using hsz] at h1
  unfold loadVar
  simp only [Sem.run_bind, run_isAgg ht, Result.andThen_ok, hag, Option.isSome_some, if_true, run_sizeOf' ht, h1, Sem.run_pure]
theorem still_run {P : Program} {e : Env} {o : Oper} {w : World} {d : Nat} {v : Value} (hd : o.dst = some d) (hv : e.get d = some v) (h : Still P e o w) : (execOp (rho e) o).run P w = .ok (.value v) w := by
  obtain ⟨dst, op, type, pos, after, guard⟩ := o
  simp only at hd
  subst hd
  unfold Still at h
  split at h
  · rename_i t x hop
    simp only at hop
    subst hop
    simp only [hv] at h
    split at h
    · rename_i a hx
      have go : (loadVar t a).run P w = .ok v w → (execOp (rho e) { dst := some d, op := .load t x, type, pos, after, guard }).run P w = .ok (.value v) w := fun hl => by
        simp [execOp, hx, Instr.loadAt, Instr.sureAddr, hl]
      split at h
      · rename_i fs ht
        split at h
        · exact go (run_load_row ht (by simp [aggSize, ht]) h.1 h.2)
        · exact h.elim
      · rename_i n el ht
        split at h
        · exact go (run_load_row ht (by simp [aggSize, ht]) h.1 h.2)
        · exact h.elim
      · rename_i d' hn1 hn2 ht
        have hag : aggSize P t = none := by
          unfold aggSize
          rw [ht]
          split
          · rename_i heq; exact absurd (Option.some.inj heq) (hn1 _)
          · rename_i heq; exact absurd (Option.some.inj heq) (hn2 _ _)
          · rfl
        refine go ?_
        unfold loadVar
        simp only [Sem.run_bind, run_isAgg ht, Result.andThen_ok, hag]
        simp [h]
      · exact h.elim
    · exact h.elim
  · exact h.elim
theorem stills_out {P : Program} {e : Env} {w : World} {k : Prop} : ∀ (l : List Oper), Stills P e w k l → k ∧ ∀ o ∈ l, Still P e o w
  | [], h => ⟨h, fun _ h => by cases h⟩
  | o :: r, h => by
    obtain ⟨h1, h2⟩ := h
    obtain ⟨hk, hr⟩ := stills_out r h2
    refine ⟨hk, fun x hx => ?_⟩
    cases hx with
    | head => exact h1
    | tail _ hx => exact hr x hx
/-- A slot whose operation is still to come. -/
def Pend (ops : List Oper) (T : List Nat) (listed : Array Bool) (n : Nat) : Prop := ∃ (i : Nat) (o : Oper), i ∉ T ∧ ops[i]? = some o ∧ o.dst = some n ∧ listed.getD i true = false
structure TInv (P : Program) (ops : List Oper) (T : List Nat) (t : Nat) (a0 : Act) (fl : List (Oper × Nat)) (e : Env) (listed : Array Bool) (a : Act) (w : World) : Prop where
  size : listed.size = ops.length
  closed : ∀ j oj, ops[j]? = some oj → listed.getD j false = true → ∀ x ∈ oj.after, Region.binds .any x = true → listed.getD x.on false = true
  done : ∀ k i, T[k]? = some i → k < t → listed.getD i false = true
  rest : ∀ k i, T[k]? = some i → t ≤ k → listed.getD i true = false
  defers : a.defers = a0.defers
  same : SameOff (dsts ops) a0.tmps a.tmps
  frame : ∀ n v, e.get n = some v → a.tmps[n]? = some v ∨ Pend ops T listed n
  fresh : ∀ k i o d, T[k]? = some i → t ≤ k → ops[i]? = some o → o.dst = some d → e.get d = none
  float : ∀ i o, i ∉ T → ops[i]? = some o → listed.getD i true = false → floatB P o = true ∧ knownL e o.op.operands.toList = true ∧
    ∃ v, (∀ d, o.dst = some d → e.get d = some v) ∧ (execOp (rho e) o).run P w = .ok (.value v) w ∧ (isLoad o.op = false → ∀ w, (execOp (rho e) o).run P w = .ok (.value v) w) ∧ (isLoad o.op = true → (o, i) ∈ fl ∧ ∃ d, o.dst = some d)
theorem getD_tf {listed : Array Bool} {i : Nat} (h : listed.getD i true = false) (h' : listed.getD i false = true) : False := by
  rcases Nat.lt_or_ge i listed.size with hl | hl
  · simp [hl] at h h'; rw [h] at h'; cases h'
  · simp [Array.getElem?_eq_none hl] at h
theorem vOp_cases {P : Program} {e : Env} {o : Oper} {w : World} {k : Value → World → Prop} {kp : List PanicEntry → World → Prop} (h : vOp P e o w k kp) :
    isSelect o.op = false ∧ knownL e o.op.operands.toList = true ∧
      (((cls P o.op = 0 ∨ cls P o.op = 1) ∧ ∃ v, (execOp (rho e) o).run P w = .ok (.value v) w ∧ k v w) ∨
       (cls P o.op ≠ 0 ∧ cls P o.op ≠ 1 ∧ Yield P (execOp (rho e) o) w k kp)) := by
  unfold vOp at h
  split at h
  · exact h.elim
  · rename_i hs
    split at h
    · exact h.elim
    · rename_i hk
      refine ⟨hs, hk, ?_⟩
      split at h
      · rename_i hc
        obtain ⟨v, hv, hk⟩ := vPure_run h
        exact .inl ⟨.inl hc, v, hv w, hk⟩
      · rename_i hc
        obtain ⟨v, hv, hk⟩ := vRead_run h
        exact .inl ⟨.inr hc, v, hv w (Below.refl _ _), hk⟩
      · rename_i h0 h1
        exact .inr ⟨h0, h1, vEff_yield h⟩
theorem wp_of_run {ro : Option Nat} {P : Program} {o : Oper} {a : Act} {w : World} {v : Value} {next : Act → World → Prop} {Q : Exit → Act → World → Prop} (hs : isSelect o.op = false) (h : (execOp a.eval o).run P w = .ok (.value v) w) (hn : next (a.put o.dst v) w) : o.wpIn (FW ro) 0 P a w next Q := by
  refine ⟨fun _ _ => trivial, ?_⟩
  rw [Oper.semAt_eq _ _ _ (not_defer hs), h]
  exact hn
theorem tail_any {ro : Option Nat} {P : Program} {ops : List Oper} {T : List Nat} {a0 : Act} {fl : List (Oper × Nat)} {kn : Env → World → Prop} {kp : List PanicEntry → World → Prop} {Q : Exit → Act → World → Prop}
    (hnd : (dsts ops).Nodup) (hlook : ∀ o ∈ ops, looksB ops o = true) (hlow : lowB ops = true) (hchain : chainOk ops T = true) (hTnd : T.Nodup)
    (hsz : ∀ d ∈ dsts ops, d < a0.tmps.size)
    (hQn : ∀ e' a' w', kn e' w' → e'.fits a'.tmps → SameOff (dsts ops) a0.tmps a'.tmps → a'.defers = a0.defers → Q .normal a' w')
    (hQp : ∀ ch a' w', kp ch w' → a'.defers = a0.defers → Q (.panic ch) a' w') :
    ∀ (f : Nat) (listed : Array Bool) (a : Act) (w : World) (e : Env) (t : Nat), TInv P ops T t a0 fl e listed a w → vcTail P ops fl kn kp (T.drop t) e w → unl listed = f →
      wpAnyIn (FW ro) 0 P .any ops.toArray Q f listed a w := by
  intro f
  induction f with
  | zero =>
    intro listed a w e t inv h hu
    have hall : ∀ i, i < ops.length → listed.getD i true = true := fun i hi => by
      cases hq : listed.getD i true with
      | true => rfl
      | false => have := unl_set hq; omega
    have hlen : T.length ≤ t := by
      rcases Nat.lt_or_ge t T.length with hl | hl
      · have h1 := inv.rest t T[t] (List.getElem?_eq_getElem hl) (Nat.le_refl _)
        rw [hall _ (chainOk_lt hchain _ (List.getElem_mem hl))] at h1; cases h1
      · exact hl
    rw [List.drop_eq_nil_of_le hlen] at h
    refine ⟨?_, hQn e a w h ?_ inv.same inv.defers⟩
    · cases hr : Region.ready .any ops.toArray listed with
      | nil => rfl
      | cons x xs =>
        exfalso
        have hx : x ∈ Region.ready .any ops.toArray listed := by rw [hr]; simp
        obtain ⟨hun, o, ho, _⟩ := mem_ready.1 hx
        have hlt : x < ops.length := by
          have := (Array.getElem?_eq_some_iff.1 ho).1
          simpa using this
        rw [hall x hlt] at hun; cases hun
    · intro n v hn
      rcases inv.frame n v hn with h | ⟨i, o, hi, ho, hd, hun⟩
      · exact h
      · rw [hall i (List.getElem?_eq_some_iff.1 ho).1] at hun; cases hun
  | succ f ih =>
    intro listed a w e t inv h hu
    have hsome : ∃ i, i < ops.length ∧ listed.getD i true = false := by
      have hpos : 0 < listed.toList.countP (fun b => !b) := by unfold unl at hu; omega
      obtain ⟨b, hb, hbf⟩ := List.countP_pos_iff.1 hpos
      have hbf' : b = false := by simpa using hbf
      subst hbf'
      obtain ⟨i, hi⟩ := List.getElem?_of_mem hb
      have hlt : i < listed.size := by have := (List.getElem?_eq_some_iff.1 hi).1; simpa using this
      have hv : listed[i] = false := by
        have := (List.getElem?_eq_some_iff.1 hi).2
        simpa using this
      exact ⟨i, by rw [← inv.size]; exact hlt, by simp [hlt, hv]⟩
    obtain ⟨i0, hi0, hun0⟩ := hsome
    refine ⟨fun h0 => absurd h0 (ready_of_unlisted hlow inv.size _ i0 (Nat.le_refl _) hi0 hun0), fun i hi => ?_⟩
    obtain ⟨hun, o, ho, hready⟩ := mem_ready.1 hi
    have ho' : ops[i]? = some o := by simpa using ho
    have hil : i < ops.length := (List.getElem?_eq_some_iff.1 ho').1
    have hmem : o ∈ ops := List.mem_of_getElem? ho'
    have hlo : ∀ d, o.dst = some d → d ∈ dsts ops := fun d hd => mem_dsts hd hmem
    have hszd : ∀ d, o.dst = some d → d < a.tmps.size := fun d hd => by rw [inv.same.1]; exact hsz d (hlo d hd)
    have hnp : ∀ x ∈ o.looksAt ops.toArray, ¬ Pend ops T listed x := by
      rintro x hx ⟨j, oj, hj, hoj, hjd, hjun⟩
      obtain ⟨y, hy, hyb, hyo⟩ := looksB_spec (hlook o hmem) hx hoj hjd
      have := hready y hy hyb
      rw [hyo] at this
      exact getD_tf hjun this
    have slot : ∀ x ∈ o.looksAt ops.toArray, ∀ v, e.get x = some v → a.tmps[x]? = some v := fun x hx v hv => (inv.frame x v hv).resolve_right (hnp x hx)
    have hrho : ∀ e' : Env, (∀ n, e'.get n = e.get n) → knownL e' o.op.operands.toList = true → ∀ x ∈ o.op.operands, rho e' x = a.eval x := by
      intro e' he' hk x hx
      have key : ∀ (l : List Operand), knownL e' l = true → x ∈ l → ∃ v, ev e' x = some v := by
        intro l
        induction l with
        | nil => intro _ h; cases h
        | cons y r ihr =>
          intro hk h
          simp only [knownL] at hk
          split at hk
          · rename_i v hv
            cases h with
            | head => exact ⟨v, hv⟩
            | tail _ h => exact ihr hk h
          · cases hk
      obtain ⟨v, hv⟩ := key _ hk (by simpa using hx)
      unfold rho; rw [hv]
      cases x with
      | tmp t' =>
        have hv' : e.get t' = some v := by rw [← he']; exact hv
        have := slot t' (by unfold Oper.looksAt; exact List.mem_append_left _ (List.mem_filterMap.2 ⟨.tmp t', by simpa using hx, rfl⟩)) v hv'
        simp [Act.eval, this]
      | const u => cases hv; rfl
      | global g => cases hv; rfl
      | func g => cases hv; rfl
    have getset : ∀ j, (listed.setIfInBounds i true).getD j false = true → j = i ∨ listed.getD j false = true := by
      intro j hj
      by_cases hij : i = j
      · exact .inl hij.symm
      · rw [getD_set_ne false hij] at hj; exact .inr hj
    have setun : ∀ j, (listed.setIfInBounds i true).getD j true = false → j ≠ i ∧ listed.getD j true = false := by
      intro j hj
      by_cases hij : i = j
      · subst hij
        have : i < listed.size := by rw [inv.size]; exact hil
        simp [this] at hj
      · rw [getD_set_ne true hij] at hj; exact ⟨fun h => hij h.symm, hj⟩
    have seton : ∀ j, listed.getD j false = true → (listed.setIfInBounds i true).getD j false = true := fun j hj => getD_set_true hj
    have setself : (listed.setIfInBounds i true).getD i false = true := by
      have : i < listed.size := by rw [inv.size]; exact hil
      simp [this]
    have putd : ∀ (v : Value) d, o.dst = some d → (a.put o.dst v).tmps[d]? = some v := by
      intro v d hd
      rw [hd]
      simp only [Act.put]
      rw [Array.getElem?_setIfInBounds_self_of_lt (hszd d hd)]
    have puto : ∀ (v : Value) n, (∀ d, o.dst = some d → d ≠ n) → (a.put o.dst v).tmps[n]? = a.tmps[n]? := by
      intro v n hn
      cases hod : o.dst with
      | none => rfl
      | some x =>
        simp only [Act.put]
        rw [Array.getElem?_setIfInBounds_ne (hn x hod)]
    have hclosed' : ∀ j oj, ops[j]? = some oj → (listed.setIfInBounds i true).getD j false = true → ∀ x ∈ oj.after, Region.binds .any x = true → (listed.setIfInBounds i true).getD x.on false = true := by
      intro j oj hj hlj x hx hxb
      by_cases hji : j = i
      · subst hji
        have : oj = o := Option.some.inj (hj.symm.trans ho')
        subst this
        exact seton _ (hready x hx hxb)
      · exact seton _ (inv.closed j oj hj ((getset j hlj).resolve_left hji) x hx hxb)
    have hu' : unl (listed.setIfInBounds i true) = f := by have := unl_set hun; omega
    unfold wpOpIn
    rw [ho]
    simp only
    by_cases him : i ∉ T
    · -- one of the first part that comes late
      obtain ⟨hfb, hk, v, hvd, hrun, hpure, hld⟩ := inv.float i o him ho' hun
      obtain ⟨hg, hal, hsel, _⟩ := floatB_spec hfb
      rw [if_pos (by unfold Region.wanted; rw [hg])]
      have hrun' : (execOp a.eval o).run P w = .ok (.value v) w := by
        rw [← execOp_congr o (not_select hsel) (hrho e (fun _ => rfl) hk)]; exact hrun
      refine wp_of_run hsel hrun' (ih _ _ w e t ⟨by simp [inv.size], hclosed', fun k j h1 h2 => seton j (inv.done k j h1 h2), fun k j h1 h2 => ?_, by rw [put_defers]; exact inv.defers, inv.same.trans (SameOff.put a v hlo), ?_, inv.fresh, ?_⟩ h hu')
      · rw [getD_set_ne true (fun (h : i = j) => him (by rw [h]; exact List.mem_of_getElem? h1))]; exact inv.rest k j h1 h2
      · intro n u hn
        by_cases hnd' : o.dst = some n
        · rw [hvd n hnd'] at hn; cases hn
          exact .inl (putd v n hnd')
        · rcases inv.frame n u hn with hfr | ⟨j, oj, hj, hoj, hjd, hjun⟩
          · refine .inl ?_
            rw [puto v n (fun d hd h => hnd' (by rw [hd, h]))]; exact hfr
          · have hji : j ≠ i := fun h => by
              subst h
              have : oj = o := Option.some.inj (hoj.symm.trans ho')
              subst this
              exact hnd' hjd
            exact .inr ⟨j, oj, hj, hoj, hjd, by rw [getD_set_ne true (Ne.symm hji)]; exact hjun⟩
      · intro j oj hj hoj hjun
        obtain ⟨hji, hjun'⟩ := setun j hjun
        exact inv.float j oj hj hoj hjun'
    · -- the next of the tail
      have him' : i ∈ T := by
        rcases Classical.em (i ∈ T) with h | h
        · exact h
        · exact absurd h him
      obtain ⟨k, hkT⟩ := List.getElem?_of_mem him'
      have hit : k = t := by
        rcases Nat.lt_or_ge k t with h1 | h1
        · exact absurd (inv.done k i hkT h1) (fun h2 => getD_tf hun h2)
        · rcases Nat.eq_or_lt_of_le h1 with h2 | h2
          · exact h2.symm
          · exfalso
            have hkl := (List.getElem?_eq_some_iff.1 hkT).1
            have hp : T[k - 1]? = some T[k - 1] := List.getElem?_eq_getElem (by omega)
            have hw := chainOk_spec hchain (k := k - 1) hp (by rw [show k - 1 + 1 = k by omega]; exact hkT)
            obtain ⟨oj, hoj, x, hx, hxb, hxo⟩ := waitsB_spec hw
            have : oj = o := Option.some.inj (hoj.symm.trans ho')
            subst this
            have h3 := hready x hx hxb
            rw [hxo] at h3
            exact getD_tf (inv.rest (k - 1) _ hp (by omega)) h3
      subst hit
      have hTne : ∀ k' j, T[k']? = some j → k' ≠ k → j ≠ i := fun k' j h1 h2 h3 => by
        subst h3
        exact h2 ((List.getElem?_inj (List.getElem?_eq_some_iff.1 h1).1 hTnd).1 (h1.trans hkT.symm))
      have hdrop : T.drop k = i :: T.drop (k + 1) := by
        have hkl := (List.getElem?_eq_some_iff.1 hkT).1
        rw [List.drop_eq_getElem_cons hkl]
        have : T[k] = i := (List.getElem?_eq_some_iff.1 hkT).2
        rw [this]
      rw [hdrop] at h
      have hfresh : ∀ d, o.dst = some d → e.get d = none := fun d hd => inv.fresh k i o d hkT (Nat.le_refl _) ho' hd
      -- the state behind it
      have next : ∀ (e' : Env) (v : Value) (w' : World), (∀ n, e'.get n = e.get n) → vcTail P ops fl kn kp (T.drop (k + 1)) (e'.put o.dst v) w' →
          (∀ j oj, j ∉ T → ops[j]? = some oj → listed.getD j true = false → ∀ u, (∀ d, oj.dst = some d → e.get d = some u) → (execOp (rho e) oj).run P w = .ok (.value u) w → (execOp (rho e) oj).run P w' = .ok (.value u) w') →
          wpAnyIn (FW ro) 0 P .any ops.toArray Q f (listed.setIfInBounds i true) (a.put o.dst v) w' := by
        intro e' v w' he' hk hfl
        have hsub : Sub e (e'.put o.dst v) := fun n u hn => by
          cases hod : o.dst with
          | none => simp only [Env.put]; rw [he']; exact hn
          | some x =>
            simp only [Env.put, get_cons]
            split
            · rename_i hx; subst hx; rw [hfresh _ hod] at hn; cases hn
            · rw [he']; exact hn
        refine ih _ _ w' (e'.put o.dst v) (k + 1) ⟨by simp [inv.size], hclosed', fun k' j h1 h2 => ?_, fun k' j h1 h2 => ?_, by rw [put_defers]; exact inv.defers, inv.same.trans (SameOff.put a v hlo), ?_, ?_, ?_⟩ hk hu'
        · by_cases hj : k' = k
          · subst hj
            rw [hkT] at h1; cases h1
            exact setself
          · exact seton j (inv.done k' j h1 (by omega))
        · rw [getD_set_ne true (fun h => hTne k' j h1 (by omega) h.symm)]; exact inv.rest k' j h1 (by omega)
        · intro n u hn
          cases hod : o.dst with
          | none =>
            rw [hod] at hn
            simp only [Env.put] at hn
            rw [he'] at hn
            rcases inv.frame n u hn with hfr | ⟨j, oj, hj, hoj, hjd, hjun⟩
            · exact .inl hfr
            · exact .inr ⟨j, oj, hj, hoj, hjd, by rw [getD_set_ne true (fun (h : i = j) => hj (by rw [← h]; exact him'))]; exact hjun⟩
          | some x =>
            rw [hod] at hn
            simp only [Env.put, get_cons] at hn
            split at hn
            · rename_i hx; subst hx; cases hn
              have := putd v x hod
              rw [hod] at this
              exact .inl this
            · rename_i hx
              rw [he'] at hn
              rcases inv.frame n u hn with hfr | ⟨j, oj, hj, hoj, hjd, hjun⟩
              · refine .inl ?_
                have := puto v n (fun d hd => by rw [hod] at hd; cases hd; exact hx)
                rw [hod] at this
                rw [this]; exact hfr
              · exact .inr ⟨j, oj, hj, hoj, hjd, by rw [getD_set_ne true (fun (h : i = j) => hj (by rw [← h]; exact him'))]; exact hjun⟩
        · intro k' j oj d hkj hj hoj hd
          have h1 := inv.fresh k' j oj d hkj (by omega) hoj hd
          cases hod : o.dst with
          | none => simp only [Env.put]; rw [he']; exact h1
          | some x =>
            simp only [Env.put, get_cons]
            rw [if_neg (fun (hx : x = d) => by
              have := same_dst hnd ho' hoj hod (by rw [hx]; exact hd)
              exact hTne k' j hkj (by omega) this.symm), he']
            exact h1
        · intro j oj hj hoj hjun
          obtain ⟨hji, hjun'⟩ := setun j hjun
          obtain ⟨hfb, hkn, u, hud, hrun, hpure, hld⟩ := inv.float j oj hj hoj hjun'
          obtain ⟨hk2, hr2⟩ := knownL_sub hsub _ hkn
          have hex := execOp_congr oj (not_select (floatB_spec hfb).2.2.1) (fun x hx => hr2 x (by simpa using hx))
          exact ⟨hfb, hk2, u, fun d hd => hsub _ _ (hud d hd), by rw [← hex]; exact hfl j oj hj hoj hjun' u hud hrun, fun h => by rw [← hex]; exact hpure h, hld⟩
      have keepSame : ∀ j oj, j ∉ T → ops[j]? = some oj → listed.getD j true = false → ∀ u, (∀ d, oj.dst = some d → e.get d = some u) → (execOp (rho e) oj).run P w = .ok (.value u) w → (execOp (rho e) oj).run P w = .ok (.value u) w := fun _ _ _ _ _ _ _ h => h
      have hsunk : ∀ (n j : Nat), i - j ≤ n → j ∈ sunkL ops i [i] → j = i ∨ listed.getD j false = true := by
        intro n
        induction n with
        | zero =>
          intro j hn hj
          rcases sunk_spec (ops := ops) (t0 := i) (T := []) (i := j) hj with h1 | ⟨j', _, h2, h3, _⟩
          · exact .inl h1
          · omega
        | succ n ihn =>
          intro j hn hj
          rcases sunk_spec (ops := ops) (t0 := i) (T := []) (i := j) hj with h1 | ⟨j', hj', h2, h3, hw⟩
          · exact .inl h1
          · obtain ⟨oj, hoj, x, hx, hxb, hxo⟩ := waitsB_spec hw
            rcases ihn j' (by omega) hj' with h4 | h4
            · subst h4
              have : oj = o := Option.some.inj (hoj.symm.trans ho')
              subst this
              have := hready x hx hxb
              rw [hxo] at this
              exact .inr this
            · have := inv.closed j' oj hoj h4 x hx hxb
              rw [hxo] at this
              exact .inr this
      have keepStill : ∀ w', (∀ x ∈ flAt ops fl i, Still P e x w') → ∀ j oj, j ∉ T → ops[j]? = some oj → listed.getD j true = false → ∀ u, (∀ d, oj.dst = some d → e.get d = some u) → (execOp (rho e) oj).run P w = .ok (.value u) w → (execOp (rho e) oj).run P w' = .ok (.value u) w' := by
        intro w' hst j oj hj hoj hjun u hud hrun
        obtain ⟨_, _, u', hud', hrun', hpure, hld⟩ := inv.float j oj hj hoj hjun
        by_cases hl : isLoad oj.op = true
        · obtain ⟨hfl, d, hd⟩ := hld hl
          refine still_run hd (hud d hd) (hst oj ?_)
          unfold flAt
          refine List.mem_map.2 ⟨(oj, j), List.mem_filter.2 ⟨hfl, ?_⟩, rfl⟩
          have : memB (sunkL ops i [i]) j = false := by
            rw [memB_false]
            intro hm
            rcases hsunk _ j (Nat.le_refl _) hm with h1 | h1
            · subst h1; exact hj him'
            · exact getD_tf hjun h1
          simp [this]
        · have h1 := hpure (by simpa using hl) w'
          have h2 := hpure (by simpa using hl) w
          rw [hrun] at h2
          cases h2
          exact h1
      -- one operation of the tail at an environment like e
      have step : ∀ (e' : Env) (K : Value → World → Prop), (∀ n, e'.get n = e.get n) → vOp P e' o w K kp →
          (∀ v w', K v w' → (cls P o.op = 0 ∨ cls P o.op = 1) → w' = w → vcTail P ops fl kn kp (T.drop (k + 1)) (e'.put o.dst v) w') →
          (∀ v w', K v w' → cls P o.op ≠ 0 → cls P o.op ≠ 1 → Stills P e w' (vcTail P ops fl kn kp (T.drop (k + 1)) (e'.put o.dst v) w') (flAt ops fl i)) →
          o.wpIn (FW ro) 0 P a w (wpAnyIn (FW ro) 0 P .any ops.toArray Q f (listed.setIfInBounds i true)) Q := by
        intro e' K he' hv hK0 hK2
        obtain ⟨hsel, hk, hc⟩ := vOp_cases hv
        have hex := execOp_congr o (not_select hsel) (hrho e' he' hk)
        rcases hc with ⟨hcl, v, hrun, hkv⟩ | ⟨h0, h1, hy⟩
        · rw [hex] at hrun
          exact wp_of_run hsel hrun (next e' v w he' (hK0 v w hkv hcl rfl) keepSame)
        · rw [hex] at hy
          refine wp_of_yield hsel hy (fun v w' hkv => ?_) (fun ch w' hch => hQp ch a w' hch inv.defers)
          obtain ⟨hkt, hst⟩ := stills_out _ (hK2 v w' hkv h0 h1)
          exact next e' v w' he' hkt (keepStill w' hst)
      have skip : ∀ (e' : Env), (∀ n, e'.get n = e.get n) → vcTail P ops fl kn kp (T.drop (k + 1)) (e'.put o.dst undef) w → wpAnyIn (FW ro) 0 P .any ops.toArray Q f (listed.setIfInBounds i true) (a.put o.dst undef) w :=
        fun e' he' hk => next e' undef w he' hk keepSame
      have hguard : ∀ j want v, o.guard = some (j, want) → guardVal ops e j = some v → yielded ops.toArray a.tmps j = match v with | .bool b => some b | _ => none := by
        intro j want v hg hv
        have hv' := hv
        unfold guardVal at hv'
        split at hv'
        · rename_i oj hj
          split at hv'
          · rename_i d hd
            have := slot d (by
              unfold Oper.looksAt
              refine List.mem_append_right _ ?_
              rw [hg]
              simp [hj, hd]) v hv'
            unfold yielded
            simp only [List.getElem?_toArray, hj, Option.bind_some, hd, this]
            cases v <;> rfl
          · cases hv'
        · cases hv'
      simp only [vcTail, ho'] at h
      split at h
      · rename_i hg
        rw [if_pos (by unfold Region.wanted; rw [hg])]
        refine step e _ (fun _ => rfl) h (fun v w' hkv hcl hw => ?_) (fun v w' hkv h0 h1 => ?_)
        · rcases hcl with hcl | hcl <;> (rw [hcl] at hkv; exact hkv)
        · split at hkv
          · rename_i hc; exact absurd hc h0
          · rename_i hc; exact absurd hc h1
          · exact hkv
      · rename_i j want hg
        split at h
        · rename_i b hv
          have hy := hguard j want _ hg hv
          simp only at hy
          have hw : Region.wanted o (yielded ops.toArray a.tmps) = (some b == some want) := by unfold Region.wanted; rw [hg]; simp [hy]
          have go : ∀ e' : Env, (∀ n, e'.get n = e.get n) → vOp P e' o w (fun v w' => Stills P e w' (vcTail P ops fl kn kp (T.drop (k + 1)) (e'.put o.dst v) w') (flAt ops fl i)) kp →
              o.wpIn (FW ro) 0 P a w (wpAnyIn (FW ro) 0 P .any ops.toArray Q f (listed.setIfInBounds i true)) Q := fun e' he' hv =>
            step e' _ he' hv (fun v w' hkv _ _ => (stills_out _ hkv).1) (fun v w' hkv _ _ => hkv)
          cases b with
          | true =>
            simp only [Gd] at h
            cases want with
            | true => rw [if_pos (by rw [hw]; rfl)]; exact go _ (guardDst_get hv) h
            | false => rw [if_neg (by rw [hw]; decide)]; exact ⟨fun _ _ => trivial, skip _ (guardDst_get hv) h⟩
          | false =>
            simp only [Gd] at h
            cases want with
            | false => rw [if_pos (by rw [hw]; rfl)]; exact go _ (guardDst_get hv) h
            | true => rw [if_neg (by rw [hw]; decide)]; exact ⟨fun _ _ => trivial, skip _ (guardDst_get hv) h⟩
        · rename_i vs hv
          have hy := hguard j want _ hg hv
          simp only at hy
          have hw : Region.wanted o (yielded ops.toArray a.tmps) = false := by unfold Region.wanted; rw [hg]; simp [hy]
          rw [if_neg (by rw [hw]; decide)]
          exact ⟨fun _ _ => trivial, skip e (fun _ => rfl) h⟩
        · exact h.elim

theorem lateL_sublist {P : Program} : ∀ (l : List Oper) (lt : Lates), (lateL P l lt).Sublist l
  | [], _ => List.Sublist.refl _
  | o :: r, lt => by
    simp only [lateL]
    split
    · exact (lateL_sublist r _).trans (List.sublist_cons_self _ _)
    · split
      · exact (lateL_sublist r _).cons_cons _
      · exact (lateL_sublist r _).trans (List.sublist_cons_self _ _)
theorem finA_pend {P : Program} {n : Nat} {w : World} {k : Env → Prop} {R : Nat → Value → Prop} {iv : Nat → Nat × Nat} : ∀ (acc : Acc) (ps : List (Nat × Nat)) (e : Env), (∀ n v, e.get n = some v → R n v) →
    (∀ x ∈ acc, ∃ d v, x.1 = some d ∧ R d v ∧ n ≤ (iv d).1 ∧ (iv d).1 ≤ (iv d).2 ∧ (iv d).2 ≤ w.heap.size ∧ x.2.2.2 (iv d).1 (iv d).2 v w) → (acc.map fun x => x.1).Nodup →
    (∀ x ∈ acc, ∀ y ∈ acc, ∀ d c, x.1 = some d → y.1 = some c → d ≠ c → (iv d).2 ≤ (iv c).1 ∨ (iv c).2 ≤ (iv d).1) →
    (∀ x ∈ acc, ∀ d, x.1 = some d → ∀ p ∈ ps, (iv d).2 ≤ p.1 ∨ p.2 ≤ (iv d).1) → finA P n w k ps acc e →
    ∃ e2, (∀ n v, e2.get n = some v → R n v) ∧ k e2 ∧ ∀ n, (∀ x ∈ acc, x.1 ≠ some n) → e2.get n = e.get n
  | [], ps, e, hf, _, _, _, _, h => ⟨e, hf, h, fun _ _ => rfl⟩
  | (d, b, t, V) :: r, ps, e, hf, hx, hnd, hap, hps, h => by
    obtain ⟨d0, v, hd0, hRd, hl1, hl2, hl3, hv⟩ := hx (d, b, t, V) (by simp)
    simp only at hd0
    have hd : ∀ d', d = some d' → R d' v := fun d' h' => by rw [hd0] at h'; cases h'; exact hRd
    have h' : finA P n w k (((iv d0).1, (iv d0).2) :: ps) r (e.put d v) := by
      have h1 := h _ _ v ⟨hl1, hl2, hl3, fun p hp => hps (d, b, t, V) (by simp) d0 hd0 p hp⟩ hv
      cases b with
      | true => obtain ⟨p, rfl, h1⟩ := h1; exact h1
      | false => exact h1.out
    have hnd' : (d :: r.map fun x => x.1).Nodup := hnd
    obtain ⟨e2, h1, h2, h3⟩ := finA_pend (iv := iv) r _ (e.put d v) (by
      cases d with
      | none => exact hf
      | some d =>
        intro n u hn
        simp only [Env.put, get_cons] at hn
        split at hn
        · rename_i he; subst he; cases hn; exact hd _ rfl
        · exact hf n u hn) (fun x hxm => hx x (by simp [hxm])) (List.nodup_cons.1 hnd').2 (fun x hxm y hym => hap x (by simp [hxm]) y (by simp [hym])) (fun x hxm c hc p hp => by
        cases hp with
        | head =>
          refine (hap x (by simp [hxm]) (d, b, t, V) (by simp) c d0 hc hd0 fun he => ?_)
          subst he
          exact (List.nodup_cons.1 hnd').1 (List.mem_map.2 ⟨x, hxm, hc.trans hd0.symm⟩)
        | tail _ hp => exact hps x (by simp [hxm]) c hc p hp) h'
    refine ⟨e2, h1, h2, fun n hn => ?_⟩
    rw [h3 n (fun x hxm => hn x (by simp [hxm]))]
    cases d with
    | none => rfl
    | some d =>
      simp only [Env.put, get_cons]
      rw [if_neg (fun (he : d = n) => hn (some d, b, t, V) (by simp) (by rw [he]))]
theorem late_pend {P : Program} {ops : List Oper} {kn : Env → World → Prop} {kp : List PanicEntry → World → Prop} {w : World} {R : Nat → Value → Prop} : ∀ (l : List Oper) (e : Env), (∀ n v, e.get n = some v → R n v) →
    (dsts l).Nodup → (∀ o ∈ l, o.guard = none ∧ cls P o.op = 0 ∧ ∃ d, o.dst = some d ∧ e.get d = none) →
    (∀ o ∈ l, ∀ (e' : Env) (v : Value) (d : Nat), (∀ n v, e'.get n = some v → R n v) → isSelect o.op = false → knownL e' o.op.operands.toList = true → (∀ w, (execOp (rho e') o).run P w = .ok (.value v) w) → o.dst = some d → R d v) →
    vcOps P ops kn kp l e w →
    ∃ e2, (∀ n v, e2.get n = some v → R n v) ∧ kn e2 w ∧ Sub e e2 ∧ (∀ n, n ∉ dsts l → e2.get n = e.get n) ∧
      ∀ o ∈ l, isSelect o.op = false ∧ knownL e2 o.op.operands.toList = true ∧ ∃ v, (∀ d, o.dst = some d → e2.get d = some v) ∧ ∀ w, (execOp (rho e2) o).run P w = .ok (.value v) w
  | [], e, hf, _, _, _, h => ⟨e, hf, h, Sub.refl e, fun _ _ => rfl, fun _ h => by cases h⟩
  | o :: r, e, hf, hnd, hl, hR, h => by
    obtain ⟨hg, hc, d, hd, hnone⟩ := hl o (by simp)
    rw [dsts_cons, hd] at hnd
    have hndr : (dsts r).Nodup := (List.nodup_append.1 hnd).2.1
    have hdr : d ∉ dsts r := fun hm => (List.nodup_append.1 hnd).2.2 d (by simp) d hm rfl
    simp only [vcOps, hg] at h
    have hv : isSelect o.op = false ∧ knownL e o.op.operands.toList = true ∧ ∃ v, (∀ w, (execOp (rho e) o).run P w = .ok (.value v) w) ∧ vcOps P ops kn kp r (e.put o.dst v) w := by
      unfold vOp at h
      split at h
      · exact h.elim
      · rename_i hs
        split at h
        · exact h.elim
        · rename_i hk
          rw [hc] at h
          obtain ⟨v, hv, hk'⟩ := vPure_run h
          exact ⟨hs, hk, v, hv, hk'⟩
    obtain ⟨hs, hk, v, hrun, h⟩ := hv
    have hRd : R d v := hR o (by simp) e v d hf hs hk hrun hd
    have hsub : Sub e (e.put o.dst v) := sub_put v fun x hx => by rw [hd] at hx; cases hx; exact hnone
    obtain ⟨e2, h1, h2, h3, h4, h5⟩ := late_pend r (e.put o.dst v) (by
      rw [hd]
      intro n u hn
      simp only [Env.put, get_cons] at hn
      split at hn
      · rename_i he; subst he; cases hn; exact hRd
      · exact hf n u hn) hndr (fun x hx => by
        obtain ⟨hg', hc', d', hd', hn'⟩ := hl x (by simp [hx])
        refine ⟨hg', hc', d', hd', ?_⟩
        rw [hd]
        simp only [Env.put, get_cons]
        rw [if_neg (fun (he : d = d') => hdr (by rw [he]; exact mem_dsts hd' hx))]
        exact hn') (fun x hx => hR x (by simp [hx])) h
    refine ⟨e2, h1, h2, hsub.trans h3, fun n hn => ?_, fun x hx => ?_⟩
    · rw [dsts_cons, hd] at hn
      simp only [List.mem_append, List.mem_singleton, not_or] at hn
      rw [h4 n hn.2, hd]
      simp only [Env.put, get_cons]
      rw [if_neg (fun he => hn.1 he.symm)]
    · cases hx with
      | head =>
        obtain ⟨hk2, hr2⟩ := knownL_sub (hsub.trans h3) _ hk
        refine ⟨hs, hk2, v, fun x hx => ?_, fun w => ?_⟩
        · rw [hd] at hx; cases hx
          exact h3 _ _ (by rw [hd]; simp [Env.put, get_cons])
        · rw [← execOp_congr o (not_select hs) (fun x hx => hr2 x (by simpa using hx))]; exact hrun w
      | tail _ hx => exact h5 x hx
end Go.Vc
