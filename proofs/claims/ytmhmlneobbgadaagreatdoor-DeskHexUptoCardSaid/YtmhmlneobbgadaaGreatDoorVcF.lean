/- The verification condition of a region that draws its order is enough. -/
import Derived.Test.YtmhmlneobbgadaaGreatDoorVcE
namespace Go.Vc
open Go Go.RowKit

/-- Environments that agree where the first has a value. -/
def Sub (e f : Env) : Prop := ∀ n v, e.get n = some v → f.get n = some v
theorem Sub.refl (e : Env) : Sub e e := fun _ _ h => h
theorem Sub.trans {e f g : Env} (h : Sub e f) (k : Sub f g) : Sub e g := fun n v hn => k n v (h n v hn)
theorem sub_put {e : Env} {d : Option Nat} (v : Value) (h : ∀ x, d = some x → e.get x = none) : Sub e (e.put d v) := by
  cases d with
  | none => exact Sub.refl _
  | some d =>
    intro n u hn
    simp only [Env.put, get_cons]
    split
    · rename_i he; subst he; rw [h _ rfl] at hn; cases hn
    · exact hn
theorem ev_sub {e f : Env} (h : Sub e f) {x : Operand} {v : Value} (hx : ev e x = some v) : ev f x = some v := by
  cases x with
  | tmp t => exact h t v hx
  | const u => exact hx
  | global g => exact hx
  | func g => exact hx
theorem knownL_sub {e f : Env} (h : Sub e f) : ∀ (l : List Operand), knownL e l = true → knownL f l = true ∧ ∀ x ∈ l, rho e x = rho f x
  | [], _ => ⟨rfl, fun _ h => by cases h⟩
  | x :: r, hk => by
    simp only [knownL] at hk
    split at hk
    · rename_i v hv
      obtain ⟨h1, h2⟩ := knownL_sub h r hk
      have hv' := ev_sub h hv
      refine ⟨by simp only [knownL]; rw [hv']; exact h1, fun y hy => ?_⟩
      cases hy with
      | head => unfold rho; rw [hv, hv']
      | tail _ hy => exact h2 y hy
    · cases hk
theorem guardVal_sub {ops : List Oper} {e f : Env} (h : Sub e f) {j : Nat} {v : Value} (hg : guardVal ops e j = some v) : guardVal ops f j = some v := by
  unfold guardVal at *
  split at hg
  · split at hg
    · exact h _ _ hg
    · cases hg
  · cases hg
def Plain (P : Program) (w : World) (e : Env) (o : Oper) (v : Value) : Prop :=
  (cls P o.op = 0 → ∀ w', (execOp (rho e) o).run P w' = .ok (.value v) w') ∧
  (isLoad o.op = true → ∀ w', Below w.heap.size w w' → (execOp (rho e) o).run P w' = .ok (.value v) w')
def DetOK (P : Program) (ops : List Oper) (w : World) (e : Env) (o : Oper) : Prop :=
  ∃ v, (∀ d, o.dst = some d → e.get d = some v) ∧
    ((wantE ops e o = some true ∧ isSelect o.op = false ∧ knownL e o.op.operands.toList = true ∧ Plain P w e o v ∧
        ∀ w', Below w.heap.size w w' → Yield P (execOp (rho e) o) w' (fun u w'' => u = v ∧ Below w'.heap.size w' w'') (fun _ _ => False)) ∨
      (wantE ops e o = some false ∧ v = undef))
theorem wantE_sub {ops : List Oper} {e f : Env} (h : Sub e f) {o : Oper} {b : Bool} (hw : wantE ops e o = some b) : wantE ops f o = some b := by
  unfold wantE at *
  split at hw
  · exact hw
  · split at hw
    · rename_i hg; rw [guardVal_sub h hg]; exact hw
    · rename_i hg; rw [guardVal_sub h hg]; exact hw
    · cases hw
theorem DetOK.sub {P : Program} {ops : List Oper} {w : World} {e f : Env} {o : Oper} (hs : Sub e f) (h : DetOK P ops w e o) : DetOK P ops w f o := by
  obtain ⟨v, hd, h⟩ := h
  refine ⟨v, fun d hdd => hs _ _ (hd d hdd), ?_⟩
  rcases h with ⟨h1, h2, h3, hp, h4⟩ | ⟨h1, h2⟩
  · obtain ⟨hk, hr⟩ := knownL_sub hs _ h3
    have he := execOp_congr o (not_select h2) (fun x hx => hr x (by simpa using hx))
    exact .inl ⟨wantE_sub hs h1, h2, hk, ⟨fun hc w' => by rw [← he]; exact hp.1 hc w', fun hl w' hb => by rw [← he]; exact hp.2 hl w' hb⟩, fun w' hb => by rw [← he]; exact h4 w' hb⟩
  · exact .inr ⟨wantE_sub hs h1, h2⟩
theorem vDet_spec {P : Program} {e : Env} {o : Oper} {w : World} {k : Value → Prop} (h : vDet P e o w k) :
    isSelect o.op = false ∧ knownL e o.op.operands.toList = true ∧
      ∃ v, Plain P w e o v ∧ (∀ w', Below w.heap.size w w' → Yield P (execOp (rho e) o) w' (fun u w'' => u = v ∧ Below w'.heap.size w' w'') (fun _ _ => False)) ∧ k v := by
  have hload : isLoad o.op = true → cls P o.op = 1 := fun h => by
    unfold isLoad at h
    split at h
    · rename_i hop; rw [hop]; rfl
    · cases h
  unfold vDet at h
  split at h
  · exact h.elim
  · rename_i hs
    split at h
    · exact h.elim
    · rename_i hk
      refine ⟨hs, hk, ?_⟩
      split at h
      · rename_i hc
        obtain ⟨v, hv, hk⟩ := vPure_run h
        exact ⟨v, ⟨(fun _ w' => hv w'), (fun hl => by rw [hload hl] at hc; cases hc)⟩, fun w' _ => by rw [Yield_iff]; unfold YieldR; rw [hv w']; exact ⟨rfl, Below.refl _ _⟩, hk⟩
      · rename_i hc
        obtain ⟨v, hv, hk⟩ := vRead_run h
        exact ⟨v, ⟨(fun h0 => by rw [hc] at h0; cases h0), (fun _ w' hb => hv w' hb)⟩, fun w' hb => by rw [Yield_iff]; unfold YieldR; rw [hv w' hb]; exact ⟨rfl, Below.refl _ _⟩, hk⟩
      · rename_i hc0 hc1
        have hpl : ∀ v, Plain P w e o v := fun v => ⟨fun h0 => absurd h0 hc0, fun hl => absurd (hload hl) hc1⟩
        have gen : YieldQ P (genSem e o) w (fun v => As P o.type v k) → ∃ v, Plain P w e o v ∧ (∀ w', Below w.heap.size w w' → Yield P (execOp (rho e) o) w' (fun u w'' => u = v ∧ Below w'.heap.size w' w'') (fun _ _ => False)) ∧ k v :=
          fun ⟨v, h1, h2⟩ => ⟨v, hpl v, fun w' hb => by rw [← genSem_eq]; exact h1 w' hb, h2.out⟩
        split at h
        · rename_i c hc
          split at h
          · rename_i f hf
            split at h
            · rename_i hok
              obtain ⟨v, hv, hk⟩ := h
              refine ⟨v, hpl v, fun w' hb => ?_, hk.out⟩
              have hcall := hv w' hb
              obtain ⟨dst, op, type, pos, after, guard⟩ := o
              obtain ⟨callee, args, argTypes⟩ := c
              simp only at hc hf
              subst hc; subst hf
              rw [Yield_iff]; unfold YieldR
              simp only [execOp, resolve, Deferred.ofValue, rho, ev, Option.getD_some, Sem.run_bind, Sem.run_pure, Result.andThen_ok, invoke]
              rw [run_callFunc hok]
              simp only [Array.empty_append, Array.append_empty]
              exact Calls.mono hcall fun e w' ⟨u, he, hu⟩ => by subst he; exact hu
            · exact h.elim
          · exact gen h
        · exact gen h
theorem dsts_cons (o : Oper) (r : List Oper) : dsts (o :: r) = (match o.dst with | some d => [d] | none => []) ++ dsts r := by
  simp only [dsts]; cases o.dst <;> rfl
theorem guardDst_get {ops : List Oper} {e : Env} {j : Nat} {b : Bool} (h : guardVal ops e j = some (.bool b)) : ∀ n, (e.put (guardDst ops j) (.bool b)).get n = e.get n := by
  intro n
  unfold guardVal at h
  unfold guardDst
  split at h
  · rename_i oj hj
    split at h
    · rename_i d hd
      simp only [hd, Env.put, get_cons]
      split
      · rename_i he; subst he; exact h.symm
      · rfl
    · cases h
  · cases h
theorem lates_get_cons (m : Nat) (v : LK) (e : Lates) (n : Nat) : Lates.get ((m, v) :: e) n = if m = n then some v else Lates.get e n := by
  simp only [Lates.get]
  by_cases h : m = n
  · subst h
    have : Nat.beq m m = true := Nat.beq_refl m
    rw [this]; simp
  · have : Nat.beq m n = false := by
      cases hb : Nat.beq m n with
      | false => rfl
      | true => exact absurd (Nat.eq_of_beq_eq_true hb) h
    rw [this]; simp [h]
theorem lateOf_mono {P : Program} {l f : Lates} (h : ∀ t y, l.get t = some y → f.get t = some y) {o : Oper} {x : LK} (ho : lateOf P l o = some x) : lateOf P f o = some x := by
  obtain ⟨dst, op, type, pos, after, guard⟩ := o
  unfold lateOf at *
  cases guard with
  | some g => simp at ho
  | none =>
    cases dst with
    | none => simp at ho
    | some d =>
      simp only at ho ⊢
      split at ho
      · exact h _ _ ho
      · exact h _ _ ho
      · split at ho
        · rename_i n hn
          rw [h _ _ hn]; exact ho
        · cases ho
      · split at ho
        · split at ho
          · split at ho
            · rename_i hn
              rw [h _ _ hn]; exact ho
            · cases ho
          · cases ho
        · cases ho
      · cases ho
theorem lateOf_spec {P : Program} {l : Lates} {o : Oper} {x : LK} (ho : lateOf P l o = some x) : o.guard = none ∧ ∃ d, o.dst = some d := by
  obtain ⟨dst, op, type, pos, after, guard⟩ := o
  unfold lateOf at ho
  cases guard with
  | some g => simp at ho
  | none =>
    cases dst with
    | none => simp at ho
    | some d => exact ⟨rfl, d, rfl⟩
theorem lateL_sub {P : Program} : ∀ (l : List Oper) (lt : Lates), ∀ o ∈ lateL P l lt, o ∈ l ∧ isAl P o = false ∧ o.guard = none ∧ ∃ d, o.dst = some d
  | [], _, _, h => by cases h
  | x :: r, lt, o, h => by
    simp only [lateL] at h
    split at h
    · obtain ⟨h1, h2⟩ := lateL_sub r _ o h; exact ⟨by simp [h1], h2⟩
    · rename_i hal
      split at h
      · rename_i y hy
        cases h with
        | head => exact ⟨by simp, hal, lateOf_spec hy⟩
        | tail _ h => obtain ⟨h1, h2⟩ := lateL_sub r _ o h; exact ⟨by simp [h1], h2⟩
      · obtain ⟨h1, h2⟩ := lateL_sub r _ o h; exact ⟨by simp [h1], h2⟩
theorem lates_put_get {lt : Lates} {d : Option Nat} {x : LK} {t : Nat} {y : LK} (h : ∀ z, d = some z → lt.get z = none) (hg : lt.get t = some y) : (lt.put d x).get t = some y := by
  cases d with
  | none => exact hg
  | some d =>
    simp only [Lates.put, lates_get_cons]
    rw [if_neg (fun e => by rw [e, ] at h; rw [h t rfl] at hg; cases hg)]
    exact hg
theorem latesF_spec {P : Program} : ∀ (l : List Oper) (lt : Lates), (dsts l).Nodup → (∀ d ∈ dsts l, lt.get d = none) →
    (∀ t y, lt.get t = some y → (latesF P l lt).get t = some y) ∧
    (∀ o ∈ l, isAl P o = true → ∀ d, o.dst = some d → (latesF P l lt).get d = some (alAr P o)) ∧
    (∀ o ∈ lateL P l lt, ∃ x d, lateOf P (latesF P l lt) o = some x ∧ o.dst = some d ∧ (latesF P l lt).get d = some x) ∧
    (∀ t y, (latesF P l lt).get t = some y → lt.get t = some y ∨ ∃ o ∈ l, o.dst = some t ∧ (isAl P o = true ∨ o ∈ lateL P l lt))
  | [], lt, _, _ => ⟨fun _ _ h => h, (fun o h => nomatch h), (fun o h => nomatch h), fun _ _ h => .inl h⟩
  | o :: r, lt, hnd, hno => by
    rw [dsts_cons] at hnd hno
    have hndr : (dsts r).Nodup := (List.nodup_append.1 hnd).2.1
    have hor : ∀ d, o.dst = some d → d ∉ dsts r := fun d hd hm => (List.nodup_append.1 hnd).2.2 d (by rw [hd]; simp) d hm rfl
    have hno_r : ∀ d ∈ dsts r, lt.get d = none := fun d hd => hno d (by simp [hd])
    have hno_o : ∀ d, o.dst = some d → lt.get d = none := fun d hd => hno d (by rw [hd]; simp)
    have hput : ∀ x, ∀ d ∈ dsts r, (lt.put o.dst x).get d = none := fun x d hd => by
      cases hod : o.dst with
      | none => simp only [Lates.put]; exact hno_r d hd
      | some z =>
        simp only [Lates.put, lates_get_cons]
        rw [if_neg (fun (h : z = d) => hor z hod (by rw [h]; exact hd))]; exact hno_r d hd
    simp only [latesF, lateL]
    split
    · rename_i hal
      obtain ⟨h1, h2, h3, h4⟩ := latesF_spec r (lt.put o.dst (alAr P o)) hndr (hput _)
      refine ⟨fun t y h => h1 t y (lates_put_get hno_o h), fun x hx hxa d hd => ?_, fun x hx => h3 x hx, fun t y h => ?_⟩
      · cases hx with
        | head => exact h1 d _ (by rw [hd]; simp [Lates.put, lates_get_cons])
        | tail _ hx => exact h2 x hx hxa d hd
      · rcases h4 t y h with h | ⟨x, hx, hxd, hxc⟩
        · cases hod : o.dst with
          | none => rw [hod] at h; exact .inl h
          | some z =>
            rw [hod] at h
            simp only [Lates.put, lates_get_cons] at h
            split at h
            · rename_i he; subst he; exact .inr ⟨o, by simp, hod, .inl hal⟩
            · exact .inl h
        · exact .inr ⟨x, by simp [hx], hxd, hxc⟩
    · rename_i hal
      split
      · rename_i x hx
        obtain ⟨h1, h2, h3, h4⟩ := latesF_spec r (lt.put o.dst x) hndr (hput _)
        obtain ⟨hg, d, hd⟩ := lateOf_spec hx
        refine ⟨fun t y h => h1 t y (lates_put_get hno_o h), fun y hy hya d hd => ?_, fun y hy => ?_, fun t y h => ?_⟩
        · cases hy with
          | head => rw [hal] at hya; cases hya
          | tail _ hy => exact h2 y hy hya d hd
        · cases hy with
          | head => exact ⟨x, d, lateOf_mono (fun t y h => h1 t y (lates_put_get hno_o h)) hx, hd, h1 d _ (by rw [hd]; simp [Lates.put, lates_get_cons])⟩
          | tail _ hy => exact h3 y hy
        · rcases h4 t y h with h | ⟨z, hz, hzd, hzc⟩
          · rw [hd] at h
            simp only [Lates.put, lates_get_cons] at h
            split at h
            · rename_i he; subst he; exact .inr ⟨o, by simp, hd, .inr (by simp)⟩
            · exact .inl h
          · exact .inr ⟨z, by simp [hz], hzd, hzc.imp id (fun h => by simp [h])⟩
      · rename_i hx
        obtain ⟨h1, h2, h3, h4⟩ := latesF_spec r lt hndr hno_r
        refine ⟨h1, fun y hy hya d hd => ?_, h3, fun t y h => ?_⟩
        · cases hy with
          | head => rw [hal] at hya; cases hya
          | tail _ hy => exact h2 y hy hya d hd
        · rcases h4 t y h with h | ⟨z, hz, hzd, hzc⟩
          · exact .inl h
          · exact .inr ⟨z, by simp [hz], hzd, hzc⟩
/-- What the first part of the region shows. -/
theorem vcQ_out {P : Program} {ops : List Oper} {w : World} {k : Env → Prop} : ∀ (l : List Oper) (e : Env) (lt : Lates), (dsts l).Nodup → (∀ d ∈ dsts l, e.get d = none) → vcQ P ops w k l e lt →
    ∃ e1, k e1 ∧ Sub e e1 ∧ (∀ n, n ∉ dsts l → e1.get n = e.get n) ∧ (∀ o ∈ l, isAl P o = true ∨ o ∈ lateL P l lt ∨ DetOK P ops w e1 o) ∧ (∀ o ∈ l, isAl P o = true ∨ o ∈ lateL P l lt → ∀ d, o.dst = some d → e1.get d = none)
  | [], e, _, _, _, h => ⟨e, h, Sub.refl e, fun _ _ => rfl, (fun o ho => nomatch ho), (fun o ho => nomatch ho)⟩
  | o :: r, e, lt, hnd, hno, h => by
    rw [dsts_cons] at hnd hno
    have hndr : (dsts r).Nodup := (List.nodup_append.1 hnd).2.1
    have hor : ∀ d, o.dst = some d → d ∉ dsts r := fun d hd hm => by
      have := (List.nodup_append.1 hnd).2.2 d (by rw [hd]; simp) d hm
      exact this rfl
    have hno_r : ∀ d ∈ dsts r, e.get d = none := fun d hd => hno d (by simp [hd])
    have hno_o : ∀ d, o.dst = some d → e.get d = none := fun d hd => hno d (by rw [hd]; simp)
    -- one operation done at an environment like e
    have step : ∀ (e' : Env) (v : Value), (∀ n, e'.get n = e.get n) → vcQ P ops w k r (e'.put o.dst v) lt → isAl P o = false → lateOf P lt o = none →
        (∀ f : Env, Sub (e'.put o.dst v) f → DetOK P ops w f o) →
        ∃ e1, k e1 ∧ Sub e e1 ∧ (∀ n, n ∉ dsts (o :: r) → e1.get n = e.get n) ∧ (∀ x ∈ o :: r, isAl P x = true ∨ x ∈ lateL P (o :: r) lt ∨ DetOK P ops w e1 x) ∧ (∀ x ∈ o :: r, isAl P x = true ∨ x ∈ lateL P (o :: r) lt → ∀ d, x.dst = some d → e1.get d = none) := by
      intro e' v he' hq hal hlo hdet
      have hll : lateL P (o :: r) lt = lateL P r lt := by simp only [lateL, hal, hlo]
      have hsub : Sub e' (e'.put o.dst v) := sub_put v fun d hd => by rw [he']; exact hno_o d hd
      have hnone : ∀ d ∈ dsts r, (e'.put o.dst v).get d = none := fun d hd => by
        cases hod : o.dst with
        | none => simp only [Env.put]; rw [he']; exact hno_r d hd
        | some x =>
          simp only [Env.put, get_cons]
          rw [if_neg (fun (h : x = d) => hor x hod (by rw [h]; exact hd)), he']; exact hno_r d hd
      obtain ⟨e1, hk, hs, hout, hd, ha⟩ := vcQ_out r (e'.put o.dst v) lt hndr hnone hq
      refine ⟨e1, hk, fun n u hn => hs n u (hsub n u (by rw [he']; exact hn)), fun n hn => ?_, fun x hx => ?_, fun x hx hxa => ?_⟩
      · rw [dsts_cons] at hn
        simp only [List.mem_append, not_or] at hn
        rw [hout n hn.2]
        cases hod : o.dst with
        | none => simp only [Env.put]; exact he' n
        | some x =>
          simp only [Env.put, get_cons]
          rw [if_neg (fun h => hn.1 (by rw [hod, h]; simp)), he']
      · rw [hll]
        cases hx with
        | head => exact .inr (.inr (hdet e1 hs))
        | tail _ hx => exact hd x hx
      · rw [hll] at hxa
        cases hx with
        | head =>
          rcases hxa with hxa | hxa
          · rw [hal] at hxa; cases hxa
          · obtain ⟨h1, _, _, d, hd⟩ := lateL_sub r _ _ hxa
            exact absurd (mem_dsts hd h1) (hor d hd)
        | tail _ hx => exact ha x hx hxa
    have stepGo : ∀ (e' : Env), (∀ n, e'.get n = e.get n) → wantE ops e o = some true → isAl P o = false → lateOf P lt o = none → vDet P e' o w (fun v => vcQ P ops w k r (e'.put o.dst v) lt) →
        ∃ e1, k e1 ∧ Sub e e1 ∧ (∀ n, n ∉ dsts (o :: r) → e1.get n = e.get n) ∧ (∀ x ∈ o :: r, isAl P x = true ∨ x ∈ lateL P (o :: r) lt ∨ DetOK P ops w e1 x) ∧ (∀ x ∈ o :: r, isAl P x = true ∨ x ∈ lateL P (o :: r) lt → ∀ d, x.dst = some d → e1.get d = none) := fun e' he' hw hal hlo hv => by
      obtain ⟨hs, hk, v, hpl, hy, hq⟩ := vDet_spec hv
      have hsub : Sub e' (e'.put o.dst v) := sub_put v fun d hd => by rw [he']; exact hno_o d hd
      exact step e' v he' hq hal hlo fun f hf => DetOK.sub hf ⟨v, fun d hd => by simp [hd, Env.put, get_cons], .inl ⟨wantE_sub (fun n u hn => hsub n u (by rw [he']; exact hn)) hw, hs, (knownL_sub hsub _ hk).1,
        ⟨fun hc w' => by rw [← execOp_congr o (not_select hs) (fun x hx => (knownL_sub hsub _ hk).2 x (by simpa using hx))]; exact hpl.1 hc w',
         fun hl w' hb => by rw [← execOp_congr o (not_select hs) (fun x hx => (knownL_sub hsub _ hk).2 x (by simpa using hx))]; exact hpl.2 hl w' hb⟩, fun w' hb => by
        rw [← execOp_congr o (not_select hs) (fun x hx => (knownL_sub hsub _ hk).2 x (by simpa using hx))]; exact hy w' hb⟩⟩
    have stepSkip : ∀ (e' : Env), (∀ n, e'.get n = e.get n) → wantE ops e o = some false → isAl P o = false → lateOf P lt o = none → vcQ P ops w k r (e'.put o.dst undef) lt →
        ∃ e1, k e1 ∧ Sub e e1 ∧ (∀ n, n ∉ dsts (o :: r) → e1.get n = e.get n) ∧ (∀ x ∈ o :: r, isAl P x = true ∨ x ∈ lateL P (o :: r) lt ∨ DetOK P ops w e1 x) ∧ (∀ x ∈ o :: r, isAl P x = true ∨ x ∈ lateL P (o :: r) lt → ∀ d, x.dst = some d → e1.get d = none) := fun e' he' hw hal hlo hq => by
      have hsub : Sub e' (e'.put o.dst undef) := sub_put undef fun d hd => by rw [he']; exact hno_o d hd
      exact step e' undef he' hq hal hlo fun f hf => DetOK.sub hf ⟨undef, fun d hd => by simp [hd, Env.put, get_cons], .inr ⟨wantE_sub (fun n u hn => hsub n u (by rw [he']; exact hn)) hw, rfl⟩⟩
    simp only [vcQ] at h
    have pass : ∀ lt', vcQ P ops w k r e lt' → lateL P (o :: r) lt = (if isAl P o then lateL P r lt' else o :: lateL P r lt') →
        ∃ e1, k e1 ∧ Sub e e1 ∧ (∀ n, n ∉ dsts (o :: r) → e1.get n = e.get n) ∧ (∀ x ∈ o :: r, isAl P x = true ∨ x ∈ lateL P (o :: r) lt ∨ DetOK P ops w e1 x) ∧ (∀ x ∈ o :: r, isAl P x = true ∨ x ∈ lateL P (o :: r) lt → ∀ d, x.dst = some d → e1.get d = none) := fun lt' h hll => by
      obtain ⟨e1, hk, hs, hout, hd, ha⟩ := vcQ_out r e lt' hndr hno_r h
      have hmem : ∀ x, x ∈ lateL P r lt' → x ∈ lateL P (o :: r) lt := fun x hx => by rw [hll]; split <;> simp [hx]
      refine ⟨e1, hk, hs, fun n hn => hout n fun hm => hn (by rw [dsts_cons]; simp [hm]), fun x hx => ?_, fun x hx hxa d hxd => ?_⟩
      · cases hx with
        | head =>
          cases hal : isAl P o with
          | true => exact .inl rfl
          | false => exact .inr (.inl (by rw [hll, hal]; simp))
        | tail _ hx => exact (hd x hx).imp id (fun h => h.imp (hmem x) id)
      · cases hx with
        | head => rw [hout d (hor d hxd)]; exact hno_o d hxd
        | tail _ hx =>
          refine ha x hx (hxa.imp id fun h => ?_) d hxd
          rw [hll] at h
          split at h
          · exact h
          · cases h with
            | head => exact absurd (mem_dsts hxd hx) (hor d hxd)
            | tail _ h => exact h
    split at h
    · rename_i hal
      exact pass _ h (by simp only [lateL, hal]; rfl)
    · rename_i hal
      split at h
      · rename_i x hx
        exact pass _ h (by simp only [lateL, hal, hx]; rfl)
      · rename_i hlo
        split at h
        · rename_i hg
          exact stepGo e (fun _ => rfl) (by unfold wantE; rw [hg]) hal hlo h
        · rename_i j want hg
          split at h
          · rename_i b hv
            have hw : wantE ops e o = some (b == want) := by unfold wantE; rw [hg]; simp only [hv]
            cases b with
            | true =>
              simp only [Gd] at h
              cases want with
              | true => exact stepGo _ (guardDst_get hv) hw hal hlo h
              | false => exact stepSkip _ (guardDst_get hv) hw hal hlo h
            | false =>
              simp only [Gd] at h
              cases want with
              | false => exact stepGo _ (guardDst_get hv) hw hal hlo h
              | true => exact stepSkip _ (guardDst_get hv) hw hal hlo h
          · rename_i vs hv
            have hw : wantE ops e o = some false := by unfold wantE; rw [hg]; simp only [hv]
            exact stepSkip e (fun _ => rfl) hw hal hlo h
          · exact h.elim
/-- An operation that lays a block, in whatever order. -/
def AlOK (P : Program) (e : Env) (w : World) (o : Oper) (V : Vl) : Prop :=
  o.guard = none ∧ isSelect o.op = false ∧ knownL e o.op.operands.toList = true ∧ MonoL V ∧
    (∀ w', Below w.heap.size w w' → Yield P (execOp (rho e) o) w' (fun u w'' => Below w'.heap.size w' w'' ∧ V w'.heap.size w''.heap.size u w'') (fun _ _ => False)) ∧
    ∀ lo hi v w, V lo hi v w → ShapeK (alAr P o) v
theorem below_push {w : World} (o : Obj) : Below w.heap.size w (w.alloc o) := (Below.refl _ w).alloc (Nat.le_refl _) o
theorem isNew_mono (cells : Array Value) (t : TypeId) : MonoL (IsNew cells t) := fun lo hi v w1 w2 hb ⟨hv, h1, h3⟩ =>
  ⟨hv, h1, by rw [hb.block lo (Array.getElem?_eq_some_iff.1 h3).1]; exact h3⟩
theorem isNew_alloc {cells : Array Value} {t : TypeId} {w' : World} : IsNew cells t w'.heap.size (w'.heap.size + 1) (.pointer (some ⟨w'.heap.size, 0, none⟩)) (w'.alloc (.cells cells t)) :=
  ⟨rfl, by omega, by show (w'.heap.push _)[_]? = _; simp⟩
theorem isNewS_mono (cells : List Value) (n : Nat) (t : TypeId) : MonoL (IsNewS cells n t) := fun lo hi v w1 w2 hb ⟨hv, h1, h3⟩ =>
  ⟨hv, h1, by rw [hb.block lo (Array.getElem?_eq_some_iff.1 h3).1]; exact h3⟩
theorem isNewS_alloc {cells : List Value} {n : Nat} {t : TypeId} {w' : World} : IsNewS cells n t w'.heap.size (w'.alloc (.cells cells.toArray t)).heap.size (.slice (some ⟨w'.heap.size, 0, none⟩) n n) (w'.alloc (.cells cells.toArray t)) :=
  ⟨rfl, by show _ < (w'.heap.push _).size; simp, by show (w'.heap.push _)[_]? = _; simp⟩
theorem vAl_spec {P : Program} {e : Env} {o : Oper} {w : World} {k : Vl → Prop} (hg : o.guard = none) (h : vAl P e o w k) : ∃ V, AlOK P e w o V ∧ k V := by
  unfold vAl at h
  split at h
  · exact h.elim
  · rename_i hs
    split at h
    · exact h.elim
    · rename_i hk
      have shp : ∀ (V : Vl), (∀ lo hi v w, V lo hi v w → Shape P o.type v) → ∀ lo hi v w, V lo hi v w → ShapeK (alAr P o) v := fun V hsh lo hi v w hv => by
        have := hsh lo hi v w hv
        unfold Shape at this
        unfold alAr
        split
        · exact this
        · trivial
      have gen : YieldA P o.type (genSem e o) w k → ∃ V, AlOK P e w o V ∧ k V := fun ⟨V, hm, hsh, hy, hV⟩ => ⟨V, ⟨hg, hs, hk, hm, fun w' hb => by rw [← genSem_eq]; exact hy w' hb, shp V hsh⟩, hV⟩
      obtain ⟨dst, op, type, pos, after, guard⟩ := o
      simp only at h hk hs hg
      split at h
      · split at h
        · rename_i z hz
          refine ⟨_, ⟨hg, hs, hk, isNew_mono _ _, fun w' hb => ?_, fun _ _ _ _ _ => trivial⟩, h⟩
          rw [Yield_iff]; unfold YieldR
          simp [execOp, Instr.alloc, run_zero hz, newVar, newRow]
          exact ⟨below_push _, isNew_alloc⟩
        · exact h.elim
      · refine ⟨_, ⟨hg, hs, hk, isNew_mono _ _, fun w' hb => ?_, fun _ _ _ _ _ => trivial⟩, h⟩
        rw [Yield_iff]; unfold YieldR
        simp [execOp, Instr.box, newVar, newRow]
        exact ⟨below_push _, isNew_alloc⟩
      · rename_i t n parts
        split at h
        · rename_i el ht
          split at h
          · rename_i i hi
            split at h
            · rename_i z hz
              split at h
              · rename_i ps hps
                split at h
                · rename_i hle
                  obtain ⟨hok, hV⟩ := h
                  refine ⟨_, ⟨hg, hs, hk, isNewS_mono _ _ _, fun w' hb => ?_, fun _ _ _ _ _ => trivial⟩, hV⟩
                  have := vEff_yield (P := P) (e := e) (o := { dst, op := .buildSlice t n parts, type, pos, after, guard }) (w := w') (k := fun u w'' => Below w'.heap.size w' w'' ∧ IsNewS (splice (match Nat.beq (n * i.size) 0 with | true => [] | false => zeroRow (n * i.size) z.cells) ps) n el w'.heap.size w''.heap.size u w'') (kp := fun _ _ => False) (by
                    unfold vEff
                    simp only [ht, hi, hz, hps, hle]
                    refine ⟨hok, ?_⟩
                    unfold NewS
                    exact ⟨below_push _, isNewS_alloc⟩)
                  exact this
                · exact h.elim
              · exact h.elim
            · exact h.elim
          · exact h.elim
        · exact h.elim
      · rename_i c
        split at h
        · rename_i f hc
          split at h
          · rename_i hok
            obtain ⟨V, hm, hsh, hy, hV⟩ := h
            refine ⟨V, ⟨hg, hs, hk, hm, fun w' hb => ?_, shp V hsh⟩, hV⟩
            have hcall := hy w' hb
            obtain ⟨callee, args, argTypes⟩ := c
            try simp only at hc
            subst hc
            rw [Yield_iff]; unfold YieldR
            simp only [execOp, resolve, Deferred.ofValue, rho, ev, Option.getD_some, Sem.run_bind, Sem.run_pure, Result.andThen_ok, invoke]
            rw [run_callFunc hok]
            simp only [Array.empty_append, Array.append_empty]
            exact Calls.mono hcall fun e w' ⟨u, he, hu⟩ => by subst he; exact hu
          · exact h.elim
        · exact gen h
      · exact gen h
theorem vcA_out {P : Program} {w : World} {e : Env} {k : Env → World → Prop} : ∀ (l : List Oper) (acc : Acc), (dsts l).Nodup → vcA P w k l e acc →
    ∃ AL : List (Oper × Vl), (∀ o ∈ l, isAl P o = true → ∃ V, (o, V) ∈ AL) ∧ (∀ p ∈ AL, AlOK P e w p.1 p.2 ∧ p.1 ∈ l ∧ isAl P p.1 = true ∧ ∃ d, p.1.dst = some d) ∧
      (∀ p ∈ AL, ∀ q ∈ AL, p.1 = q.1 → p.2 = q.2) ∧ (AL.map fun p => p.1.dst).Nodup ∧
      ∀ w', Below w.heap.size w w' → finA P w.heap.size w' (fun e => k e w') [] (acc ++ AL.map fun p => (p.1.dst, isAddr p.1.op, p.1.type, p.2)) e
  | [], acc, _, h => ⟨[], (fun o ho => nomatch ho), (fun p hp => nomatch hp), (fun p hp => nomatch hp), List.nodup_nil, fun w' hb => by simpa using h w' hb⟩
  | o :: r, acc, hnd, h => by
    rw [dsts_cons] at hnd
    have hndr := (List.nodup_append.1 hnd).2.1
    simp only [vcA] at h
    split at h
    · rename_i hal
      obtain ⟨AL, h1, h2, hu, hnA, h3⟩ := vcA_out r acc hndr h
      refine ⟨AL, fun x hx hxa => ?_, fun p hp => ⟨(h2 p hp).1, List.mem_cons_of_mem _ (h2 p hp).2.1, (h2 p hp).2.2⟩, hu, hnA, h3⟩
      cases hx with
      | head => rw [hal] at hxa; cases hxa
      | tail _ hx => exact h1 x hx hxa
    · rename_i hal
      split at h
      · rename_i hg
        split at h
        · rename_i d hd
          obtain ⟨V, hV, h⟩ := vAl_spec hg h
          obtain ⟨AL, h1, h2, hu, hnA, h3⟩ := vcA_out r _ hndr h
          have hne : ∀ p ∈ AL, p.1 ≠ o := fun p hp he => by
            have := (h2 p hp).2.1
            rw [he] at this
            exact (List.nodup_append.1 hnd).2.2 d (by rw [hd]; simp) d (mem_dsts hd this) rfl
          refine ⟨(o, V) :: AL, fun x hx hxa => ?_, fun p hp => ?_, fun p hp q hq he => ?_, ?_, fun w' hb => by have := h3 w' hb; simpa [hd] using this⟩
          · cases hx with
            | head => exact ⟨V, by simp⟩
            | tail _ hx => obtain ⟨V', hV'⟩ := h1 x hx hxa; exact ⟨V', by simp [hV']⟩
          · cases hp with
            | head => exact ⟨hV, by simp, hal, d, hd⟩
            | tail _ hp => exact ⟨(h2 p hp).1, List.mem_cons_of_mem _ (h2 p hp).2.1, (h2 p hp).2.2⟩
          · cases hp with
            | head => cases hq with
              | head => rfl
              | tail _ hq => exact absurd he.symm (hne q hq)
            | tail _ hp => cases hq with
              | head => exact absurd he (hne p hp)
              | tail _ hq => exact hu p hp q hq he
          · rw [List.map_cons, List.nodup_cons]
            refine ⟨fun hm => ?_, hnA⟩
            obtain ⟨p, hp, hpd⟩ := List.mem_map.1 hm
            exact (List.nodup_append.1 hnd).2.2 d (by rw [hd]; simp) d (mem_dsts (hpd.trans hd) (h2 p hp).2.1) rfl
        · exact h.elim
      · exact h.elim
theorem dsts_mem : ∀ {ops : List Oper} {t : Nat}, t ∈ dsts ops → ∃ (j : Nat) (oj : Oper), ops[j]? = some oj ∧ oj.dst = some t
  | [], t, h => by cases h
  | x :: r, t, h => by
    rw [dsts_cons] at h
    rcases List.mem_append.1 h with h | h
    · cases hx : x.dst with
      | none => rw [hx] at h; cases h
      | some d => rw [hx] at h; simp at h; subst h; exact ⟨0, x, rfl, hx⟩
    · obtain ⟨j, oj, hj, hjd⟩ := dsts_mem h
      exact ⟨j + 1, oj, by simpa using hj, hjd⟩
end Go.Vc
