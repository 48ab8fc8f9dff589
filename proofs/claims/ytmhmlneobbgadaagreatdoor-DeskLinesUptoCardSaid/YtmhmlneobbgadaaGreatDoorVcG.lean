/- A verification condition for functions of the model: regions in one order, ranges over functions, calls. -/
import Derived.Test.YtmhmlneobbgadaaGreatDoorVcFb
import Derived.Conc.LoneCalls
namespace Go.Vc
open Go Go.RowKit

/-- A slot whose operation is still to come. -/
def PendS (ops : List Oper) (listed : Array Bool) (n : Nat) : Prop := ∃ (i : Nat) (o : Oper), ops[i]? = some o ∧ o.dst = some n ∧ listed.getD i true = false
structure SInv (P : Program) (ops : List Oper) (S : List Nat) (t : Nat) (a0 : Act) (e : Env) (listed : Array Bool) (a : Act) (w : World) : Prop where
  size : listed.size = ops.length
  closed : ∀ j oj, ops[j]? = some oj → listed.getD j false = true → ∀ x ∈ oj.after, Region.binds .any x = true → listed.getD x.on false = true
  done : ∀ k i o, S[k]? = some i → k < t → ops[i]? = some o → lightB P o = false → listed.getD i false = true
  rest : ∀ k i, S[k]? = some i → t ≤ k → listed.getD i true = false
  defers : a.defers = a0.defers
  same : SameOff (dsts ops) a0.tmps a.tmps
  frame : ∀ n v, e.get n = some v → a.tmps[n]? = some v ∨ PendS ops listed n
  fresh : ∀ k i o d, S[k]? = some i → t ≤ k → ops[i]? = some o → o.dst = some d → e.get d = none
  float : ∀ k i o, S[k]? = some i → k < t → ops[i]? = some o → listed.getD i true = false → lightB P o = true ∧ ∃ v, (∀ d, o.dst = some d → e.get d = some v) ∧
    ((wantE ops e o = some true ∧ knownL e o.op.operands.toList = true ∧ (execOp (rho e) o).run P w = .ok (.value v) w ∧ (isLoad o.op = false → ∀ w, (execOp (rho e) o).run P w = .ok (.value v) w) ∧ (isLoad o.op = true → ∃ d, o.dst = some d)) ∨ (wantE ops e o = some false ∧ v = undef))
theorem lightB_spec {P : Program} {o : Oper} (h : lightB P o = true) : isSelect o.op = false ∧ (cls P o.op = 0 ∨ (isLoad o.op = true ∧ ∃ d, o.dst = some d)) := by
  unfold lightB at h
  split at h
  · cases h
  · rename_i hs
    split at h
    · rename_i hc; exact ⟨hs, .inl hc⟩
    · split at h
      · rename_i d hd; exact ⟨hs, .inr ⟨h, d, hd⟩⟩
      · cases h
theorem vOp_light {P : Program} {e : Env} {o : Oper} {w : World} {k : Value → World → Prop} {kp : List PanicEntry → World → Prop} (hl : lightB P o = true) (h : vOp P e o w k kp) :
    isSelect o.op = false ∧ knownL e o.op.operands.toList = true ∧ ∃ v, (execOp (rho e) o).run P w = .ok (.value v) w ∧ (isLoad o.op = false → ∀ w, (execOp (rho e) o).run P w = .ok (.value v) w) ∧ k v w := by
  obtain ⟨hs0, hc⟩ := lightB_spec hl
  unfold vOp at h
  split at h
  · exact h.elim
  · rename_i hs
    split at h
    · exact h.elim
    · rename_i hk
      refine ⟨hs, hk, ?_⟩
      split at h
      · obtain ⟨v, hv, hk⟩ := vPure_run h
        exact ⟨v, hv w, fun _ => hv, hk⟩
      · rename_i h1
        obtain ⟨v, hv, hk⟩ := vRead_run h
        refine ⟨v, hv w (Below.refl _ _), fun hn => ?_, hk⟩
        rcases hc with hc | ⟨hc, _⟩
        · rw [h1] at hc; cases hc
        · rw [hc] at hn; cases hn
      · rename_i h0 h1
        rcases hc with hc | ⟨hc, _⟩
        · exact absurd hc h0
        · exact absurd (isLoad_cls hc) h1
theorem wantE_get {ops : List Oper} {e f : Env} (h : ∀ n, f.get n = e.get n) (o : Oper) : wantE ops f o = wantE ops e o := by
  have hg : ∀ j, guardVal ops f j = guardVal ops e j := fun j => by
    unfold guardVal
    split
    · split
      · exact h _
      · rfl
    · rfl
  unfold wantE
  split
  · rfl
  · rw [hg]
theorem sStills_out {P : Program} {ops : List Oper} {e : Env} {w : World} {k : Prop} : ∀ (l : List Nat), sStills P ops e w k l → k ∧ ∀ j ∈ l, ∀ o, ops[j]? = some o → wantE ops e o = some true → Still P e o w
  | [], h => ⟨h, fun _ h => by cases h⟩
  | j :: r, h => by
    unfold sStills at h
    split at h
    · rename_i o ho
      split at h
      · obtain ⟨h1, h2⟩ := h
        obtain ⟨hk, hr⟩ := sStills_out r h2
        refine ⟨hk, fun x hx p hp hw => ?_⟩
        cases hx with
        | head => rw [ho] at hp; cases hp; exact h1
        | tail _ hx => exact hr x hx p hp hw
      · rename_i hwf
        obtain ⟨hk, hr⟩ := sStills_out r h
        refine ⟨hk, fun x hx p hp hw => ?_⟩
        cases hx with
        | head => rw [ho] at hp; cases hp; rw [hwf] at hw; cases hw
        | tail _ hx => exact hr x hx p hp hw
      · exact h.elim
    · exact h.elim
theorem aft_spec {ops : List Oper} {listed : Array Bool} {i : Nat} (hcl : ∀ j oj, ops[j]? = some oj → listed.getD j false = true → ∀ x ∈ oj.after, Region.binds .any x = true → listed.getD x.on false = true) :
    ∀ (r acc : List Nat), (∀ x ∈ acc, listed.getD x false = true → listed.getD i false = true) → aftOk ops r acc = true →
      ∀ q ∈ r, ∀ o, ops[q]? = some o → (∀ x ∈ o.after, Region.binds .any x = true → listed.getD x.on false = true) → listed.getD i false = true
  | [], _, _, _, q, hq, _, _, _ => by cases hq
  | p :: r, acc, hacc, h, q, hq, o, ho, hr => by
    unfold aftOk at h
    split at h
    · rename_i hp
      split at hp
      · rename_i op hop
        obtain ⟨x, hx, hb⟩ := List.any_eq_true.1 hp
        split at hb
        · rename_i hbb
          have hxa := (memB_iff _ _).1 hb
          have hp2 : (∀ x ∈ op.after, Region.binds .any x = true → listed.getD x.on false = true) → listed.getD i false = true := fun hh => hacc _ hxa (hh x (by simpa using hx) hbb)
          cases hq with
          | head => rw [ho] at hop; cases hop; exact hp2 hr
          | tail _ hq =>
            refine aft_spec hcl r (p :: acc) (fun y hy hly => ?_) h q hq o ho hr
            cases hy with
            | head => exact hp2 (hcl _ _ hop hly)
            | tail _ hy => exact hacc y hy hly
        · cases hb
      · cases hp
    · cases h
theorem heavy_spec {P : Program} {ops : List Oper} : ∀ (S : List Nat), heavyOk P ops S = true → ∀ t i o, S[t]? = some i → ops[i]? = some o → lightB P o = false → aftOk ops (S.drop (t + 1)) [i] = true
  | [], _, t, i, o, hi, _, _ => by simp at hi
  | p :: r, h, t, i, o, hi, ho, hl => by
    unfold heavyOk at h
    split at h
    · rename_i hp
      cases t with
      | zero =>
        simp only [List.getElem?_cons_zero, Option.some.injEq] at hi
        subst hi
        rw [ho] at hp
        simp only at hp
        rw [hl] at hp
        exact hp
      | succ t => exact heavy_spec r h t i o (by simpa using hi) ho hl
    · cases h
theorem pre_succ {S : List Nat} {t i : Nat} (h : S[t]? = some i) : (S.take (t + 1)).reverse = i :: (S.take t).reverse := by
  obtain ⟨hlt, rfl⟩ := List.getElem?_eq_some_iff.1 h
  rw [← List.take_append_getElem hlt, List.reverse_append]; rfl
theorem drop_at {S : List Nat} {t i : Nat} (h : S[t]? = some i) : S.drop t = i :: S.drop (t + 1) := by
  obtain ⟨hlt, rfl⟩ := List.getElem?_eq_some_iff.1 h
  exact List.drop_eq_getElem_cons hlt
section
variable {ro : Option Nat} {P : Program} {ops : List Oper} {S : List Nat} {a0 : Act} {kn : Env → World → Prop} {kp : List PanicEntry → World → Prop} {Q : Exit → Act → World → Prop}
theorem put_sub {e e1 : Env} {o : Oper} {v : Value} (he : ∀ n, e1.get n = e.get n) (hfr : ∀ d, o.dst = some d → e.get d = none) : Sub e (e1.put o.dst v) := fun n u hn => by
  cases hod : o.dst with
  | none => simp only [Env.put]; rw [he]; exact hn
  | some x =>
    simp only [Env.put, get_cons]
    split
    · rename_i hx; subst hx; rw [hfr _ hod] at hn; cases hn
    · rw [he]; exact hn
/-- A light operation is counted in, done or not. -/
theorem SInv.grow (hnd : (dsts ops).Nodup) (hSn : S.Nodup) {t i : Nat} {e e1 : Env} {listed : Array Bool} {a : Act} {w : World} {o : Oper} {v : Value} (inv : SInv P ops S t a0 e listed a w) (hi : S[t]? = some i) (ho : ops[i]? = some o) (hl : lightB P o = true)
    (he : ∀ n, e1.get n = e.get n)
    (hv : (wantE ops e o = some true ∧ knownL e1 o.op.operands.toList = true ∧ (execOp (rho e1) o).run P w = .ok (.value v) w ∧ (isLoad o.op = false → ∀ w, (execOp (rho e1) o).run P w = .ok (.value v) w)) ∨ (wantE ops e o = some false ∧ v = undef)) :
    SInv P ops S (t + 1) a0 (e1.put o.dst v) listed a w := by
  have hfr : ∀ d, o.dst = some d → e.get d = none := fun d hd => inv.fresh t i o d hi (Nat.le_refl _) ho hd
  have hsub : Sub e (e1.put o.dst v) := put_sub he hfr
  have hsub1 : Sub e1 (e1.put o.dst v) := fun n u hn => hsub n u (by rw [← he]; exact hn)
  have hun := inv.rest t i hi (Nat.le_refl _)
  refine ⟨inv.size, inv.closed, fun k j oj hj hk hoj hlj => ?_, fun k j hj hk => inv.rest k j hj (by omega), inv.defers, inv.same, fun n u hn => ?_, fun k j oj d hj hk hoj hd => ?_, fun k j oj hj hk hoj hjun => ?_⟩
  · rcases Nat.lt_or_ge k t with h | h
    · exact inv.done k j oj hj h hoj hlj
    · have : k = t := by omega
      subst this
      rw [hi] at hj; cases hj
      rw [ho] at hoj; cases hoj
      rw [hl] at hlj; cases hlj
  · cases hod : o.dst with
    | none => rw [hod] at hn; simp only [Env.put] at hn; rw [he] at hn; exact inv.frame n u hn
    | some x =>
      rw [hod] at hn
      simp only [Env.put, get_cons] at hn
      split at hn
      · rename_i hx; subst hx; exact .inr ⟨i, o, ho, hod, hun⟩
      · rw [he] at hn; exact inv.frame n u hn
  · have h1 := inv.fresh k j oj d hj (by omega) hoj hd
    cases hod : o.dst with
    | none => simp only [Env.put]; rw [he]; exact h1
    | some x =>
      simp only [Env.put, get_cons]
      rw [if_neg (fun (hx : x = d) => by
        have hij := same_dst hnd ho hoj hod (by rw [hx]; exact hd)
        subst hij
        have := (List.getElem?_inj (List.getElem?_eq_some_iff.1 hi).1 hSn).1 (hi.trans hj.symm)
        omega), he]
      exact h1
  · rcases Nat.lt_or_ge k t with h | h
    · obtain ⟨h1, u, h2, h3⟩ := inv.float k j oj hj h hoj hjun
      refine ⟨h1, u, fun d hd => hsub _ _ (h2 d hd), ?_⟩
      rcases h3 with ⟨h4, h5, h6, h7, h8⟩ | ⟨h4, h5⟩
      · obtain ⟨hk2, hr2⟩ := knownL_sub hsub _ h5
        have hex := execOp_congr oj (not_select (lightB_spec h1).1) (fun x hx => hr2 x (by simpa using hx))
        exact .inl ⟨wantE_sub hsub h4, hk2, by rw [← hex]; exact h6, fun hh => by rw [← hex]; exact h7 hh, h8⟩
      · exact .inr ⟨wantE_sub hsub h4, h5⟩
    · have : k = t := by omega
      subst this
      rw [hi] at hj; cases hj
      rw [ho] at hoj; cases hoj
      refine ⟨hl, v, fun d hd => by rw [hd]; simp [Env.put, get_cons], ?_⟩
      rcases hv with ⟨h4, h5, h6, h7⟩ | ⟨h4, h5⟩
      · obtain ⟨hk2, hr2⟩ := knownL_sub hsub1 _ h5
        have hex := execOp_congr o (not_select (lightB_spec hl).1) (fun x hx => hr2 x (by simpa using hx))
        refine .inl ⟨wantE_sub hsub h4, hk2, by rw [← hex]; exact h6, fun hh => by rw [← hex]; exact h7 hh, fun hh => ?_⟩
        rcases (lightB_spec hl).2 with h | ⟨_, h⟩
        · rw [isLoad_cls hh] at h; cases h
        · exact h
      · exact .inr ⟨wantE_sub hsub h4, h5⟩
/-- On to the next heavy one. -/
theorem seq_adv (hnd : (dsts ops).Nodup) (hSn : S.Nodup) {listed : Array Bool} {a : Act} {w : World} : ∀ (m t : Nat) (e : Env), S.length - t = m → t ≤ S.length → SInv P ops S t a0 e listed a w → vcSeq P ops kn kp (S.drop t) (S.take t).reverse e w →
    ∃ t' e', SInv P ops S t' a0 e' listed a w ∧ t ≤ t' ∧ t' ≤ S.length ∧ vcSeq P ops kn kp (S.drop t') (S.take t').reverse e' w ∧ (t' = S.length ∨ ∃ i o, S[t']? = some i ∧ ops[i]? = some o ∧ lightB P o = false) := by
  intro m
  induction m with
  | zero => intro t e hm ht inv h; exact ⟨t, e, inv, Nat.le_refl _, ht, h, .inl (by omega)⟩
  | succ m ih =>
    intro t e hm ht inv h
    have hi : S[t]? = some (S[t]'(by omega)) := List.getElem?_eq_getElem (by omega)
    generalize (S[t]'(by omega)) = i at hi
    have h0 := h
    rw [drop_at hi] at h
    unfold vcSeq at h
    split at h
    · exact h.elim
    · rename_i o ho
      cases hl : lightB P o with
      | false => exact ⟨t, e, inv, Nat.le_refl _, ht, h0, .inr ⟨i, o, hi, ho, hl⟩⟩
      | true =>
        rw [← pre_succ hi] at h
        have run : ∀ e1 : Env, (∀ n, e1.get n = e.get n) → wantE ops e o = some true → seqOp P ops (S.take t).reverse i o e1 w (fun e w => vcSeq P ops kn kp (S.drop (t + 1)) (S.take (t + 1)).reverse e w) kp →
            ∃ t' e', SInv P ops S t' a0 e' listed a w ∧ t ≤ t' ∧ t' ≤ S.length ∧ vcSeq P ops kn kp (S.drop t') (S.take t').reverse e' w ∧ (t' = S.length ∨ ∃ i o, S[t']? = some i ∧ ops[i]? = some o ∧ lightB P o = false) := by
          intro e1 he hw hh
          unfold seqOp at hh
          obtain ⟨hs, hk, v, hr, hp, hkv⟩ := vOp_light hl hh
          rw [hl] at hkv
          obtain ⟨t', e', h1, h2, h3⟩ := ih (t + 1) _ (by omega) (by omega) (inv.grow hnd hSn hi ho hl he (.inl ⟨hw, hk, hr, hp⟩)) hkv
          exact ⟨t', e', h1, by omega, h3⟩
        have skip : ∀ e1 : Env, (∀ n, e1.get n = e.get n) → wantE ops e o = some false → vcSeq P ops kn kp (S.drop (t + 1)) (S.take (t + 1)).reverse (e1.put o.dst undef) w →
            ∃ t' e', SInv P ops S t' a0 e' listed a w ∧ t ≤ t' ∧ t' ≤ S.length ∧ vcSeq P ops kn kp (S.drop t') (S.take t').reverse e' w ∧ (t' = S.length ∨ ∃ i o, S[t']? = some i ∧ ops[i]? = some o ∧ lightB P o = false) := by
          intro e1 he hw hh
          obtain ⟨t', e', h1, h2, h3⟩ := ih (t + 1) _ (by omega) (by omega) (inv.grow hnd hSn hi ho hl he (.inr ⟨hw, rfl⟩)) hh
          exact ⟨t', e', h1, by omega, h3⟩
        unfold seqStep at h
        split at h
        · rename_i hg
          exact run e (fun _ => rfl) (by unfold wantE; rw [hg]) h
        · rename_i j want hg
          split at h
          · rename_i b hv
            have hw : wantE ops e o = some (b == want) := by unfold wantE; rw [hg]; simp only; rw [hv]
            cases b with
            | true =>
              simp only [Gd] at h
              cases want with
              | true => exact run _ (guardDst_get hv) hw h
              | false => exact skip _ (guardDst_get hv) hw h
            | false =>
              simp only [Gd] at h
              cases want with
              | false => exact run _ (guardDst_get hv) hw h
              | true => exact skip _ (guardDst_get hv) hw h
          · rename_i vs hv
            have hw : wantE ops e o = some false := by unfold wantE; rw [hg]; simp only; rw [hv]
            exact skip e (fun _ => rfl) hw h
          · exact h.elim
/-- One that is ready: a light one that comes late, or the next heavy one. -/
theorem seq_one (hnd : (dsts ops).Nodup) (hlook : ∀ o ∈ ops, looksB ops o = true) (hSn : S.Nodup) (hsz : ∀ d ∈ dsts ops, d < a0.tmps.size) (hQp : ∀ ch a' w', kp ch w' → a'.defers = a0.defers → Q (.panic ch) a' w')
    {listed : Array Bool} {a : Act} {w : World} {e : Env} {t : Nat} {R : Env → World → Prop} {K : Act → World → Prop} (inv : SInv P ops S t a0 e listed a w) {i k : Nat} (hi : i ∈ Region.ready .any ops.toArray listed) (hkS : S[k]? = some i)
    (hL : k < t → ∀ a', SInv P ops S t a0 e (listed.setIfInBounds i true) a' w → K a' w)
    (hH : ¬ k < t → k = t ∧ ∃ o, ops[i]? = some o ∧ lightB P o = false ∧ seqStep P ops (S.take k).reverse i o e w R kp)
    (hN : k = t → ∀ e' a' w', SInv P ops S (k + 1) a0 e' (listed.setIfInBounds i true) a' w' → R e' w' → K a' w') :
    wpOpIn (FW ro) 0 P ops.toArray Q i K a w := by
  obtain ⟨hun, o, ho, hready⟩ := mem_ready.1 hi
  have ho' : ops[i]? = some o := by simpa using ho
  have hil : i < ops.length := (List.getElem?_eq_some_iff.1 ho').1
  have hmem : o ∈ ops := List.mem_of_getElem? ho'
  have hlo : ∀ d, o.dst = some d → d ∈ dsts ops := fun d hd => mem_dsts hd hmem
  have hszd : ∀ d, o.dst = some d → d < a.tmps.size := fun d hd => by rw [inv.same.1]; exact hsz d (hlo d hd)
  have hnp : ∀ x ∈ o.looksAt ops.toArray, ¬ PendS ops listed x := by
    rintro x hx ⟨j, oj, hoj, hjd, hjun⟩
    obtain ⟨y, hy, hyb, hyo⟩ := looksB_spec (hlook o hmem) hx hoj hjd
    have := hready y hy hyb
    rw [hyo] at this
    exact getD_tf hjun this
  have slot : ∀ x ∈ o.looksAt ops.toArray, ∀ v, e.get x = some v → a.tmps[x]? = some v := fun x hx v hv => (inv.frame x v hv).resolve_right (hnp x hx)
  have hrho : ∀ e' : Env, (∀ n, e'.get n = e.get n) → knownL e' o.op.operands.toList = true → ∀ x ∈ o.op.operands, rho e' x = a.eval x := by
    intro e' he' hk x hx
    have key : ∀ (l : List Operand), knownL e' l = true → x ∈ l → ∃ v, ev e' x = some v := by
      intro l
      induction l with
      | nil => intro _ h; cases h
      | cons y r ihr =>
        intro hk h
        simp only [knownL] at hk
        split at hk
        · rename_i v hv
          cases h with
          | head => exact ⟨v, hv⟩
          | tail _ h => exact ihr hk h
        · cases hk
    obtain ⟨v, hv⟩ := key _ hk (by simpa using hx)
    unfold rho; rw [hv]
    cases x with
    | tmp t' =>
      have hv' : e.get t' = some v := by rw [← he']; exact hv
      have := slot t' (by unfold Oper.looksAt; exact List.mem_append_left _ (List.mem_filterMap.2 ⟨.tmp t', by simpa using hx, rfl⟩)) v hv'
      simp [Act.eval, this]
    | const u => cases hv; rfl
    | global g => cases hv; rfl
    | func g => cases hv; rfl
  have getset : ∀ j, (listed.setIfInBounds i true).getD j false = true → j = i ∨ listed.getD j false = true := by
    intro j hj
    by_cases hij : i = j
    · exact .inl hij.symm
    · rw [getD_set_ne false hij] at hj; exact .inr hj
  have setun : ∀ j, (listed.setIfInBounds i true).getD j true = false → j ≠ i ∧ listed.getD j true = false := by
    intro j hj
    by_cases hij : i = j
    · subst hij
      have : i < listed.size := by rw [inv.size]; exact hil
      simp [this] at hj
    · rw [getD_set_ne true hij] at hj; exact ⟨fun h => hij h.symm, hj⟩
  have seton : ∀ j, listed.getD j false = true → (listed.setIfInBounds i true).getD j false = true := fun j hj => getD_set_true hj
  have setself : (listed.setIfInBounds i true).getD i false = true := by
    have : i < listed.size := by rw [inv.size]; exact hil
    simp [this]
  have putd : ∀ (v : Value) d, o.dst = some d → (a.put o.dst v).tmps[d]? = some v := by
    intro v d hd
    rw [hd]
    simp only [Act.put]
    rw [Array.getElem?_setIfInBounds_self_of_lt (hszd d hd)]
  have puto : ∀ (v : Value) n, (∀ d, o.dst = some d → d ≠ n) → (a.put o.dst v).tmps[n]? = a.tmps[n]? := by
    intro v n hn
    cases hod : o.dst with
    | none => rfl
    | some x =>
      simp only [Act.put]
      rw [Array.getElem?_setIfInBounds_ne (hn x hod)]
  have hclosed' : ∀ j oj, ops[j]? = some oj → (listed.setIfInBounds i true).getD j false = true → ∀ x ∈ oj.after, Region.binds .any x = true → (listed.setIfInBounds i true).getD x.on false = true := by
    intro j oj hj hlj x hx hxb
    by_cases hji : j = i
    · subst hji
      have : oj = o := Option.some.inj (hj.symm.trans ho')
      subst this
      exact seton _ (hready x hx hxb)
    · exact seton _ (inv.closed j oj hj ((getset j hlj).resolve_left hji) x hx hxb)
  have hguard : ∀ j want v, o.guard = some (j, want) → guardVal ops e j = some v → yielded ops.toArray a.tmps j = match v with | .bool b => some b | _ => none := by
    intro j want v hg hv
    have hv' := hv
    unfold guardVal at hv'
    split at hv'
    · rename_i oj hj
      split at hv'
      · rename_i d hd
        have := slot d (by
          unfold Oper.looksAt
          refine List.mem_append_right _ ?_
          rw [hg]
          simp [hj, hd]) v hv'
        unfold yielded
        simp only [List.getElem?_toArray, hj, Option.bind_some, hd, this]
        cases v <;> rfl
      · cases hv'
    · cases hv'
  have hwanted : ∀ b, wantE ops e o = some b → Region.wanted o (yielded ops.toArray a.tmps) = b := by
    intro b hb
    unfold wantE at hb
    split at hb
    · rename_i hg; cases hb; unfold Region.wanted; rw [hg]
    · rename_i j want hg
      split at hb
      · rename_i c hv
        have hy := hguard j want _ hg hv
        simp only at hy
        cases hb
        unfold Region.wanted; rw [hg]; simp only; rw [hy]; cases c <;> cases want <;> rfl
      · rename_i vs hv
        have hy := hguard j want _ hg hv
        simp only at hy
        cases hb
        unfold Region.wanted; rw [hg]; simp only; rw [hy]; cases want <;> rfl
      · cases hb
  unfold wpOpIn
  rw [ho]
  simp only
  have hSne : ∀ k' j, S[k']? = some j → k' ≠ k → j ≠ i := fun k' j h1 h2 h3 => by
    subst h3
    exact h2 ((List.getElem?_inj (List.getElem?_eq_some_iff.1 h1).1 hSn).1 (h1.trans hkS.symm))
  rcases Nat.lt_or_ge k t with hkt | hkt
  · -- a light one that comes late
    obtain ⟨hl, v, hvd, hout⟩ := inv.float k i o hkS hkt ho' hun
    have next : K (a.put o.dst v) w := by
      refine hL hkt _ ⟨by simp [inv.size], hclosed', fun k' j oj h1 h2 h3 h4 => seton j (inv.done k' j oj h1 h2 h3 h4), fun k' j h1 h2 => ?_, by rw [put_defers]; exact inv.defers, inv.same.trans (SameOff.put a v hlo), ?_, inv.fresh, ?_⟩
      · rw [getD_set_ne true (fun (hh : i = j) => hSne k' j h1 (by omega) hh.symm)]; exact inv.rest k' j h1 h2
      · intro n u hn
        by_cases hnd' : o.dst = some n
        · rw [hvd n hnd'] at hn; cases hn
          exact .inl (putd v n hnd')
        · rcases inv.frame n u hn with hfr | ⟨j, oj, hoj, hjd, hjun⟩
          · refine .inl ?_
            rw [puto v n (fun d hd hh => hnd' (by rw [hd, hh]))]; exact hfr
          · have hji : j ≠ i := fun hh => by
              subst hh
              have : oj = o := Option.some.inj (hoj.symm.trans ho')
              subst this
              exact hnd' hjd
            exact .inr ⟨j, oj, hoj, hjd, by rw [getD_set_ne true (Ne.symm hji)]; exact hjun⟩
      · intro k' j oj h1 h2 h3 hjun
        exact inv.float k' j oj h1 h2 h3 (setun j hjun).2
    rcases hout with ⟨hw, hk, hrun, _, _⟩ | ⟨hw, rfl⟩
    · rw [if_pos (hwanted _ hw)]
      have hsel := (lightB_spec hl).1
      have hrun' : (execOp a.eval o).run P w = .ok (.value v) w := by
        rw [← execOp_congr o (not_select hsel) (hrho e (fun _ => rfl) hk)]; exact hrun
      exact wp_of_run hsel hrun' next
    · rw [if_neg (by rw [hwanted _ hw]; decide)]
      exact ⟨fun _ _ => trivial, next⟩
  · obtain ⟨hit, o2, hoh, hlh, h⟩ := hH (Nat.not_lt.2 hkt)
    subst hit
    rw [ho'] at hoh; cases hoh
    have hfresh : ∀ d, o.dst = some d → e.get d = none := fun d hd => inv.fresh k i o d hkS (Nat.le_refl _) ho' hd
    -- the state behind it
    have next : ∀ (e' : Env) (v : Value) (w' : World), (∀ n, e'.get n = e.get n) → R (e'.put o.dst v) w' →
        (∀ k' j oj, S[k']? = some j → k' < k → ops[j]? = some oj → listed.getD j true = false → wantE ops e oj = some true → ∀ u, (∀ d, oj.dst = some d → e.get d = some u) → (execOp (rho e) oj).run P w = .ok (.value u) w → (execOp (rho e) oj).run P w' = .ok (.value u) w') →
        K (a.put o.dst v) w' := by
      intro e' v w' he' hk hfl
      have hsub : Sub e (e'.put o.dst v) := put_sub he' hfresh
      refine hN rfl _ _ w' ⟨by simp [inv.size], hclosed', fun k' j oj h1 h2 h3 h4 => ?_, fun k' j h1 h2 => ?_, by rw [put_defers]; exact inv.defers, inv.same.trans (SameOff.put a v hlo), ?_, ?_, ?_⟩ hk
      · by_cases hj : k' = k
        · subst hj
          rw [hkS] at h1; cases h1
          exact setself
        · exact seton j (inv.done k' j oj h1 (by omega) h3 h4)
      · rw [getD_set_ne true (fun hh => hSne k' j h1 (by omega) hh.symm)]; exact inv.rest k' j h1 (by omega)
      · intro n u hn
        by_cases hnd' : o.dst = some n
        · have : u = v := by
            rw [hnd'] at hn
            simp only [Env.put, get_cons] at hn
            simpa using hn.symm
          subst this
          exact .inl (putd u n hnd')
        · have hn' : e.get n = some u := by
            cases hod : o.dst with
            | none => rw [hod] at hn; simp only [Env.put] at hn; rw [he'] at hn; exact hn
            | some x =>
              rw [hod] at hn
              simp only [Env.put, get_cons] at hn
              rw [if_neg (fun hx => hnd' (by rw [hod, hx])), he'] at hn
              exact hn
          rcases inv.frame n u hn' with hfr | ⟨j, oj, hoj, hjd, hjun⟩
          · refine .inl ?_
            rw [puto v n (fun d hd hh => hnd' (by rw [hd, hh]))]; exact hfr
          · have hji : j ≠ i := fun hh => by
              subst hh
              have : oj = o := Option.some.inj (hoj.symm.trans ho')
              subst this
              exact hnd' hjd
            exact .inr ⟨j, oj, hoj, hjd, by rw [getD_set_ne true (Ne.symm hji)]; exact hjun⟩
      · intro k' j oj d hkj hj hoj hd
        have h1 := inv.fresh k' j oj d hkj (by omega) hoj hd
        cases hod : o.dst with
        | none => simp only [Env.put]; rw [he']; exact h1
        | some x =>
          simp only [Env.put, get_cons]
          rw [if_neg (fun (hx : x = d) => by
            have := same_dst hnd ho' hoj hod (by rw [hx]; exact hd)
            exact hSne k' j hkj (by omega) this.symm), he']
          exact h1
      · intro k' j oj hkj hj hoj hjun
        obtain ⟨hji, hjun'⟩ := setun j hjun
        have hk'k : k' ≠ k := fun hh => by subst hh; rw [hkS] at hkj; cases hkj; exact hji rfl
        obtain ⟨hl, u, hud, hout⟩ := inv.float k' j oj hkj (by omega) hoj hjun'
        refine ⟨hl, u, fun d hd => hsub _ _ (hud d hd), ?_⟩
        rcases hout with ⟨hw, hkn, hrun, hpure, hld⟩ | ⟨hw, hu⟩
        · obtain ⟨hk2, hr2⟩ := knownL_sub hsub _ hkn
          have hex := execOp_congr oj (not_select (lightB_spec hl).1) (fun x hx => hr2 x (by simpa using hx))
          exact .inl ⟨wantE_sub hsub hw, hk2, by rw [← hex]; exact hfl k' j oj hkj (by omega) hoj hjun' hw u hud hrun, fun hh => by rw [← hex]; exact hpure hh, hld⟩
        · exact .inr ⟨wantE_sub hsub hw, hu⟩
    have hsunk : ∀ (n j : Nat), i - j ≤ n → j ∈ sunkL ops i [i] → j = i ∨ listed.getD j false = true := by
      intro n
      induction n with
      | zero =>
        intro j hn hj
        rcases sunk_spec (ops := ops) (t0 := i) (T := []) (i := j) hj with h1 | ⟨j', _, h2, h3, _⟩
        · exact .inl h1
        · omega
      | succ n ihn =>
        intro j hn hj
        rcases sunk_spec (ops := ops) (t0 := i) (T := []) (i := j) hj with h1 | ⟨j', hj', h2, h3, hw⟩
        · exact .inl h1
        · obtain ⟨oj, hoj, x, hx, hxb, hxo⟩ := waitsB_spec hw
          rcases ihn j' (by omega) hj' with h4 | h4
          · subst h4
            have : oj = o := Option.some.inj (hoj.symm.trans ho')
            subst this
            have := hready x hx hxb
            rw [hxo] at this
            exact .inr this
          · have := inv.closed j' oj hoj h4 x hx hxb
            rw [hxo] at this
            exact .inr this
    have keepStill : ∀ (e' : Env) (w' : World), (∀ n, e'.get n = e.get n) → (∀ j ∈ pendL ops (S.take k).reverse i, ∀ oj, ops[j]? = some oj → wantE ops e' oj = some true → Still P e' oj w') →
        ∀ k' j oj, S[k']? = some j → k' < k → ops[j]? = some oj → listed.getD j true = false → wantE ops e oj = some true → ∀ u, (∀ d, oj.dst = some d → e.get d = some u) → (execOp (rho e) oj).run P w = .ok (.value u) w → (execOp (rho e) oj).run P w' = .ok (.value u) w' := by
      intro e' w' he' hst k' j oj hkj hk'k hoj hjun hw u hud hrun
      obtain ⟨hl, u', hud', hout⟩ := inv.float k' j oj hkj hk'k hoj hjun
      rcases hout with ⟨_, hkn, hrun', hpure, hld⟩ | ⟨hw', _⟩
      · by_cases hlo : isLoad oj.op = true
        · obtain ⟨d, hd⟩ := hld hlo
          have hke : knownL e' oj.op.operands.toList = true ∧ ∀ x ∈ oj.op.operands.toList, rho e x = rho e' x := knownL_sub (fun n v hn => by rw [he']; exact hn) _ hkn
          have hex := execOp_congr oj (not_select (lightB_spec hl).1) (fun x hx => hke.2 x (by simpa using hx))
          rw [hex]
          refine still_run hd (by rw [he']; exact hud d hd) (hst j ?_ oj hoj (by rw [wantE_get he']; exact hw))
          unfold pendL
          refine List.mem_filter.2 ⟨List.mem_reverse.2 (List.mem_take_iff_getElem.2 ⟨k', ?_, ?_⟩), ?_⟩
          · have := (List.getElem?_eq_some_iff.1 hkj).1; omega
          · exact (List.getElem?_eq_some_iff.1 hkj).2
          · rw [hoj]
            simp only
            rw [hlo]
            have : memB (sunkL ops i [i]) j = false := by
              rw [memB_false]
              intro hm
              rcases hsunk _ j (Nat.le_refl _) hm with h1 | h1
              · exact hSne k' j hkj (by omega) h1
              · exact getD_tf hjun h1
            simp [this]
        · have h1 := hpure (by simpa using hlo) w'
          have h2 := hpure (by simpa using hlo) w
          rw [hrun] at h2
          cases h2
          exact h1
      · rw [hw] at hw'; cases hw'
    have keepSame : ∀ k' j oj, S[k']? = some j → k' < k → ops[j]? = some oj → listed.getD j true = false → wantE ops e oj = some true → ∀ u, (∀ d, oj.dst = some d → e.get d = some u) → (execOp (rho e) oj).run P w = .ok (.value u) w → (execOp (rho e) oj).run P w = .ok (.value u) w := fun _ _ _ _ _ _ _ _ _ _ h => h
    -- the heavy one at an environment like e
    have step : ∀ e' : Env, (∀ n, e'.get n = e.get n) → seqOp P ops (S.take k).reverse i o e' w R kp →
        o.wpIn (FW ro) 0 P a w K Q := by
      intro e' he' hv
      unfold seqOp at hv
      obtain ⟨hsel, hk, hc⟩ := vOp_cases hv
      have hex := execOp_congr o (not_select hsel) (hrho e' he' hk)
      rcases hc with ⟨hcl, v, hrun, hkv⟩ | ⟨h0, h1, hy⟩
      · rw [hex] at hrun
        rw [hlh] at hkv
        obtain ⟨hkt, hst⟩ := sStills_out _ hkv
        exact wp_of_run hsel hrun (next e' v w he' hkt keepSame)
      · rw [hex] at hy
        refine wp_of_yield hsel hy (fun v w' hkv => ?_) (fun ch w' hch => hQp ch a w' hch inv.defers)
        rw [hlh] at hkv
        obtain ⟨hkt, hst⟩ := sStills_out _ hkv
        exact next e' v w' he' hkt (keepStill e' w' he' hst)
    have skip : ∀ (e' : Env), (∀ n, e'.get n = e.get n) → R (e'.put o.dst undef) w → K (a.put o.dst undef) w :=
      fun e' he' hk => next e' undef w he' hk keepSame
    unfold seqStep at h
    split at h
    · rename_i hg
      rw [if_pos (hwanted true (by unfold wantE; rw [hg]))]
      exact step e (fun _ => rfl) h
    · rename_i j want hg
      split at h
      · rename_i b hv
        have hw : wantE ops e o = some (b == want) := by unfold wantE; rw [hg]; simp only; rw [hv]
        cases b with
        | true =>
          simp only [Gd] at h
          cases want with
          | true => rw [if_pos (hwanted true hw)]; exact step _ (guardDst_get hv) h
          | false => rw [if_neg (by rw [hwanted false hw]; decide)]; exact ⟨fun _ _ => trivial, skip _ (guardDst_get hv) h⟩
        | false =>
          simp only [Gd] at h
          cases want with
          | false => rw [if_pos (hwanted true hw)]; exact step _ (guardDst_get hv) h
          | true => rw [if_neg (by rw [hwanted false hw]; decide)]; exact ⟨fun _ _ => trivial, skip _ (guardDst_get hv) h⟩
      · rename_i vs hv
        have hw : wantE ops e o = some false := by unfold wantE; rw [hg]; simp only; rw [hv]
        rw [if_neg (by rw [hwanted _ hw]; decide)]
        exact ⟨fun _ _ => trivial, skip e (fun _ => rfl) h⟩
      · exact h.elim
/-- Of what is to come the next heavy one alone is ready. -/
theorem seq_pos {t : Nat} {e : Env} {listed : Array Bool} {a : Act} {w : World} (hend : t = S.length ∨ ∃ i o, S[t]? = some i ∧ ops[i]? = some o ∧ lightB P o = false) (inv : SInv P ops S t a0 e listed a w)
    (hheavy : ∀ i o, S[t]? = some i → ops[i]? = some o → lightB P o = false → aftOk ops (S.drop (t + 1)) [i] = true) {i k : Nat} (hi : i ∈ Region.ready .any ops.toArray listed) (hkS : S[k]? = some i) (hkt : t ≤ k) : k = t ∧ ∃ o, ops[i]? = some o ∧ lightB P o = false := by
  obtain ⟨hun, o, ho, hready⟩ := mem_ready.1 hi
  have ho' : ops[i]? = some o := by simpa using ho
  have hkl := (List.getElem?_eq_some_iff.1 hkS).1
  rcases hend with hend | ⟨ih', oh, hih, hoh, hlh⟩
  · omega
  have hit : k = t := by
    rcases Nat.eq_or_lt_of_le hkt with h2 | h2
    · exact h2.symm
    · exfalso
      have ha := hheavy ih' oh hih hoh hlh
      have h3 := aft_spec (i := ih') inv.closed _ [ih'] (fun x hx hlx => by rw [List.mem_singleton] at hx; rw [hx] at hlx; exact hlx) ha i (by
        have : (S.drop (t + 1))[k - (t + 1)]? = some i := by rw [List.getElem?_drop, show t + 1 + (k - (t + 1)) = k by omega]; exact hkS
        exact List.mem_of_getElem? this) o ho' hready
      exact getD_tf (inv.rest t ih' hih (Nat.le_refl _)) h3
  subst hit
  rw [hkS] at hih; cases hih
  exact ⟨rfl, oh, hoh, hlh⟩
theorem seq_any (hnd : (dsts ops).Nodup) (hlook : ∀ o ∈ ops, looksB ops o = true) (hlow : lowB ops = true) (hSn : S.Nodup) (hcov : ∀ i, i < ops.length → i ∈ S) (hSlt : ∀ i ∈ S, i < ops.length) (tb : Nat) (hheavy : ∀ t i o, tb ≤ t → S[t]? = some i → ops[i]? = some o → lightB P o = false → aftOk ops (S.drop (t + 1)) [i] = true)
    (hsz : ∀ d ∈ dsts ops, d < a0.tmps.size)
    (hQn : ∀ e' a' w', kn e' w' → e'.fits a'.tmps → SameOff (dsts ops) a0.tmps a'.tmps → a'.defers = a0.defers → Q .normal a' w')
    (hQp : ∀ ch a' w', kp ch w' → a'.defers = a0.defers → Q (.panic ch) a' w') :
    ∀ (f : Nat) (listed : Array Bool) (a : Act) (w : World) (e : Env) (t : Nat), SInv P ops S t a0 e listed a w → tb ≤ t → t ≤ S.length → vcSeq P ops kn kp (S.drop t) (S.take t).reverse e w → unl listed = f →
      wpAnyIn (FW ro) 0 P .any ops.toArray Q f listed a w := by
  intro f
  induction f with
  | zero =>
    intro listed a w e0 t0 inv0 htb ht0 h0 hu
    obtain ⟨t, e, inv, htt, ht, h, hend⟩ := seq_adv hnd hSn _ t0 e0 rfl ht0 inv0 h0
    have hall : ∀ i, i < ops.length → listed.getD i true = true := fun i hi => by
      cases hq : listed.getD i true with
      | true => rfl
      | false => have := unl_set hq; omega
    have hlen : t = S.length := by
      rcases hend with h | ⟨i, o, hi, ho, _⟩
      · exact h
      · have h1 := inv.rest t i hi (Nat.le_refl _)
        rw [hall _ (hSlt _ (List.mem_of_getElem? hi))] at h1; cases h1
    rw [List.drop_eq_nil_of_le (by omega)] at h
    refine ⟨?_, hQn e a w h ?_ inv.same inv.defers⟩
    · cases hr : Region.ready .any ops.toArray listed with
      | nil => rfl
      | cons x xs =>
        exfalso
        have hx : x ∈ Region.ready .any ops.toArray listed := by rw [hr]; simp
        obtain ⟨hun, o, ho, _⟩ := mem_ready.1 hx
        have hlt : x < ops.length := by
          have := (Array.getElem?_eq_some_iff.1 ho).1
          simpa using this
        rw [hall x hlt] at hun; cases hun
    · intro n v hn
      rcases inv.frame n v hn with h | ⟨i, o, ho, hd, hun⟩
      · exact h
      · rw [hall i (List.getElem?_eq_some_iff.1 ho).1] at hun; cases hun
  | succ f ih =>
    intro listed a w e0 t0 inv0 htb ht0 h0 hu
    obtain ⟨t, e, inv, htt, ht, h, hend⟩ := seq_adv hnd hSn _ t0 e0 rfl ht0 inv0 h0
    have hsome : ∃ i, i < ops.length ∧ listed.getD i true = false := by
      have hpos : 0 < listed.toList.countP (fun b => !b) := by unfold unl at hu; omega
      obtain ⟨b, hb, hbf⟩ := List.countP_pos_iff.1 hpos
      have hbf' : b = false := by simpa using hbf
      subst hbf'
      obtain ⟨i, hi⟩ := List.getElem?_of_mem hb
      have hlt : i < listed.size := by have := (List.getElem?_eq_some_iff.1 hi).1; simpa using this
      have hv : listed[i] = false := by
        have := (List.getElem?_eq_some_iff.1 hi).2
        simpa using this
      exact ⟨i, by rw [← inv.size]; exact hlt, by simp [hlt, hv]⟩
    obtain ⟨i0, hi0, hun0⟩ := hsome
    refine ⟨fun h0 => absurd h0 (ready_of_unlisted hlow inv.size _ i0 (Nat.le_refl _) hi0 hun0), fun i hi => ?_⟩
    have hun := (mem_ready.1 hi).1
    have hil : i < ops.length := by
      obtain ⟨_, o, ho, _⟩ := mem_ready.1 hi
      have ho' : ops[i]? = some o := by simpa using ho
      exact (List.getElem?_eq_some_iff.1 ho').1
    have hu' : unl (listed.setIfInBounds i true) = f := by have := unl_set hun; omega
    obtain ⟨k, hkS⟩ := List.getElem?_of_mem (hcov i hil)
    refine seq_one (R := fun e w => vcSeq P ops kn kp (S.drop (k + 1)) (S.take (k + 1)).reverse e w) hnd hlook hSn hsz hQp inv hi hkS (fun hkt a' inv' => ih _ _ _ e t inv' (by omega) ht h hu') (fun hkt => ?_) fun hkt e' a' w' inv' hr => ih _ _ _ e' (k + 1) inv' (by omega) (List.getElem?_eq_some_iff.1 hkS).1 hr hu'
    · obtain ⟨hit, o, hoh, hlh⟩ := seq_pos hend inv (fun i' o h1 h2 h3 => hheavy t i' o (by omega) h1 h2 h3) hi hkS (Nat.not_lt.1 hkt)
      subst hit
      refine ⟨rfl, o, hoh, hlh, ?_⟩
      rw [drop_at hkS] at h
      unfold vcSeq at h
      rw [hoh] at h
      rw [pre_succ hkS]
      exact h
end
theorem vcSeqT_sound {ro : Option Nat} {P : Program} {S : List Nat} {ops : List Oper} {id : Nat} {kn : Env → World → Prop} {kp : List PanicEntry → World → Prop} {Q : Exit → Act → World → Prop} {a : Act} {w : World} {e : Env}
    (hm : P.follows .mixedOrders = true)
    (hQn : ∀ e' a' w', kn e' w' → e'.fits a'.tmps → SameOff (dsts ops) a.tmps a'.tmps → a'.defers = a.defers → Q .normal a' w')
    (hQp : ∀ ch a' w', kp ch w' → a'.defers = a.defers → Q (.panic ch) a' w') (hL : ∀ d ∈ dsts ops, d < a.tmps.size)
    (h : vcSeqT P S ops e w kn kp) (hf : e.fits a.tmps) : (Code.region id ops.toArray true).wpIn (FW ro) 0 P Q a w := by
  unfold vcSeqT at h
  split at h
  · exact h.elim
  · rename_i hok
    unfold seqOk at hok
    simp only [Bool.and_eq_true] at hok
    obtain ⟨⟨⟨⟨⟨⟨hlook, hnd⟩, hlow⟩, hSn⟩, hcov⟩, hSlt⟩, hheavy⟩ := hok
    have hnd' := nodupB_spec _ hnd
    have hlook' : ∀ o ∈ ops, looksB ops o = true := fun o ho => List.all_eq_true.1 hlook o ho
    have hno : ∀ d ∈ dsts ops, (e.drop (dsts ops)).get d = none := fun d hd => by
      rw [get_drop, if_pos]; rw [memB_iff]; exact hd
    have hf0 : (e.drop (dsts ops)).fits a.tmps := fits_drop hf _
    have hfalse : ∀ (i : Nat) (b : Bool), (Array.replicate ops.toArray.size false).getD i b = true → ¬ i < ops.length ∧ b = true := fun i b hb => by
      by_cases hlt : i < ops.length
      · simp [hlt] at hb
      · refine ⟨hlt, ?_⟩
        simp [hlt] at hb; exact hb
    refine wpIn_region_any hm ?_
    have hrest : ∀ (k i : Nat), S[k]? = some i → 0 ≤ k → (Array.replicate ops.toArray.size false).getD i true = false := fun k i hk _ => by
      have hlt : i < ops.length := by
        have := List.all_eq_true.1 hSlt i (List.mem_of_getElem? hk)
        simpa using this
      simp [hlt]
    refine seq_any (t := 0) (e := e.drop (dsts ops)) hnd' hlook' hlow (nodupB_spec _ hSn) (fun i hi => (memB_iff _ _).1 (List.all_eq_true.1 hcov i (List.mem_range.2 hi))) (fun i hi => by
      have := List.all_eq_true.1 hSlt i hi
      simpa using this) 0 (fun t i o _ => heavy_spec S hheavy t i o) hL hQn hQp _ _ a { w with drawn := w.drawn + 1 } ⟨by simp, fun j oj _ hl => ?_, fun k i o _ hk => absurd hk (by omega), hrest, rfl, SameOff.refl _ _, fun n v hn => .inl (hf0 n v hn), fun k i o d _ _ ho hd => hno d (mem_dsts hd (List.mem_of_getElem? ho)), fun k i o _ hk => absurd hk (by omega)⟩ (Nat.zero_le _) (Nat.zero_le _) (h _ (Below.refl _ w).drew) ?_
    · have := (hfalse _ _ hl).2; cases this
    · unfold unl
      have : (Array.replicate ops.toArray.size false).toList = List.replicate ops.toArray.size false := by simp
      rw [this]
      have hc : ∀ n : Nat, (List.replicate n false).countP (fun b => !b) = n := fun n => by
        induction n with
        | zero => rfl
        | succ n ih => simp [List.replicate_succ, ih]
      rw [hc]
end Go.Vc
namespace Go.Vc
open Go Go.RowKit

section
variable {P : Program} {ops : List Oper} {e0 : Env}
theorem old_get (i : Nat) : (oldOps e0 ops)[i]? = (ops[i]?).map fun o => oldOne e0 ops o i := by
  unfold oldOps
  rw [List.getElem?_map, List.getElem?_zipIdx]
  cases ops[i]? <;> simp
theorem old_len : (oldOps e0 ops).length = ops.length := by unfold oldOps; simp
/-- What is the same. -/
theorem old_same (o : Oper) (i : Nat) : (oldOne e0 ops o i).dst = o.dst ∧ (oldOne e0 ops o i).guard = o.guard ∧ (oldOne e0 ops o i).after = o.after := by
  unfold oldOne
  split
  · exact ⟨rfl, rfl, rfl⟩
  · split
    · split <;> exact ⟨rfl, rfl, rfl⟩
    · split <;> exact ⟨rfl, rfl, rfl⟩
    · exact ⟨rfl, rfl, rfl⟩
theorem dsts_map (f : Oper × Nat → Oper) : ∀ (l : List Oper) (j : Nat), (∀ o i, (f (o, i)).dst = o.dst) → dsts ((l.zipIdx j).map f) = dsts l
  | [], _, _ => rfl
  | o :: r, j, h => by
    rw [List.zipIdx_cons, List.map_cons]
    simp only [dsts]
    rw [h o j, dsts_map f r (j + 1) h]
theorem old_dsts : dsts (oldOps e0 ops) = dsts ops := dsts_map _ ops 0 fun o i => (old_same o i).1
/-- An operation that is turned reads a slot that whoever writes it waits for it to be read. -/
theorem old_turned (o : Oper) (i : Nat) : oldOne e0 ops o i = o ∨ ∃ d v, (o.op = .move (.tmp d) ∨ o.op = .assign (.tmp d)) ∧ (oldOne e0 ops o i).op = .move (.const v) ∧ e0.get d = some v ∧ o.guard = none ∧ ∀ (j : Nat) (p : Oper), ops[j]? = some p → p.dst = some d → onB p i = true := by
  have key : ∀ d v, oldV e0 ops d i = some v → e0.get d = some v ∧ ∀ (j : Nat) (p : Oper), ops[j]? = some p → p.dst = some d → onB p i = true := fun d v h => by
    unfold oldV at h
    split at h
    · cases h
    · rename_i u hu
      split at h
      · rename_i hall
        cases h
        refine ⟨hu, fun j p hj hd => ?_⟩
        have := List.all_eq_true.1 hall p (List.mem_of_getElem? hj)
        rw [hd] at this
        simp only at this
        rw [Nat.beq_refl] at this
        exact this
      · cases h
  unfold oldOne
  split
  · exact .inl rfl
  · rename_i hg
    split
    · rename_i d ho
      split
      · rename_i v hv; exact .inr ⟨d, v, .inl ho, rfl, (key d v hv).1, hg, (key d v hv).2⟩
      · exact .inl rfl
    · rename_i d ho
      split
      · rename_i v hv; exact .inr ⟨d, v, .inr ho, rfl, (key d v hv).1, hg, (key d v hv).2⟩
      · exact .inl rfl
    · exact .inl rfl
/-- A run is enough from the states that the operation can lead to. -/
theorem wpIn_monoP {F : Fence} {n : Nat} {o : Oper} {a : Act} {w : World} {K K' : Act → World → Prop} {Q : Exit → Act → World → Prop} (h : ∀ a' w, (∃ v, a'.tmps = (a.put o.dst v).tmps) → K a' w → K' a' w)
    (hh : o.wpIn F n P a w K Q) : o.wpIn F n P a w K' Q := by
  have put_tmps : ∀ (b : Act) v, b.tmps = a.tmps → (b.put o.dst v).tmps = (a.put o.dst v).tmps := fun b v hb => by
    cases o.dst with
    | none => exact hb
    | some d => simp only [Act.put]; rw [hb]
  unfold Oper.wpIn at *
  refine ⟨hh.1, ?_⟩
  have hh := hh.2
  generalize (o.semAt F.round a.eval).run P w = r at *
  cases r with
  | ok x w' =>
    cases x <;> simp only [Oper.uponIn] at hh ⊢ <;>
      first
        | exact h _ _ ⟨_, put_tmps _ _ rfl⟩ hh
        | exact ⟨hh.1, CallsIn.mono hh.2 (fun e w'' he => by cases e <;> first | exact h _ _ ⟨_, put_tmps _ _ rfl⟩ he | exact he)⟩
        | exact ⟨hh.1, RowsIn.mono hh.2 (fun _ _ he => h _ _ ⟨_, put_tmps _ _ rfl⟩ he)⟩
        | exact ⟨hh.1, RoundIn.mono hh.2 (fun e w'' he => by cases e <;> first | exact h _ _ ⟨_, put_tmps _ _ rfl⟩ he | exact he)⟩
  | halt x w' => cases x <;> simp only [Oper.uponIn] at hh ⊢ <;> exact hh
theorem ready_old (listed : Array Bool) (i : Nat) : i ∈ Region.ready .any (oldOps e0 ops).toArray listed ↔ i ∈ Region.ready .any ops.toArray listed := by
  rw [mem_ready, mem_ready]
  simp only [List.getElem?_toArray, old_get]
  refine and_congr Iff.rfl ⟨?_, ?_⟩
  · rintro ⟨o, ho, h⟩
    cases hi : ops[i]? with
    | none => rw [hi] at ho; cases ho
    | some p => rw [hi] at ho; cases ho; rw [(old_same p i).2.2] at h; exact ⟨p, rfl, h⟩
  · rintro ⟨o, ho, h⟩
    rw [ho]
    exact ⟨_, rfl, by rw [(old_same o i).2.2]; exact h⟩
theorem yielded_old (tmps : Array Value) : yielded (oldOps e0 ops).toArray tmps = yielded ops.toArray tmps := by
  funext j
  unfold yielded
  simp only [List.getElem?_toArray, old_get]
  cases hj : ops[j]? with
  | none => rfl
  | some o => simp only [Option.map_some, Option.bind_some, (old_same o j).1]
theorem old_any {ro : Option Nat} {Q : Exit → Act → World → Prop} : ∀ (f : Nat) (listed : Array Bool) (a : Act) (w : World), listed.size = ops.length →
    (∀ j oj, ops[j]? = some oj → listed.getD j false = true → ∀ x ∈ oj.after, Region.binds .any x = true → listed.getD x.on false = true) →
    (∀ d v, e0.get d = some v → (∀ (i : Nat) (o : Oper), ops[i]? = some o → o.dst = some d → listed.getD i true = false) → a.tmps[d]? = some v) →
    wpAnyIn (FW ro) 0 P .any (oldOps e0 ops).toArray Q f listed a w → wpAnyIn (FW ro) 0 P .any ops.toArray Q f listed a w := by
  have hnil : ∀ listed, Region.ready .any ops.toArray listed = [] ↔ Region.ready .any (oldOps e0 ops).toArray listed = [] := fun listed => by
    rw [List.eq_nil_iff_forall_not_mem, List.eq_nil_iff_forall_not_mem]
    exact forall_congr' fun i => not_congr (ready_old listed i).symm
  intro f
  induction f with
  | zero => intro listed a w _ _ _ h; exact ⟨(hnil listed).2 h.1, h.2⟩
  | succ f ih =>
    intro listed a w hsz hcl hinv h
    refine ⟨fun hr => h.1 ((hnil listed).1 hr), fun i hi => ?_⟩
    have hop := h.2 i ((ready_old listed i).2 hi)
    obtain ⟨hun, o, ho, hready⟩ := mem_ready.1 hi
    have ho' : ops[i]? = some o := by simpa using ho
    have hil : i < ops.length := (List.getElem?_eq_some_iff.1 ho').1
    have setun : ∀ j, (listed.setIfInBounds i true).getD j true = false → j ≠ i ∧ listed.getD j true = false := by
      intro j hj
      by_cases hij : i = j
      · subst hij
        have : i < listed.size := by rw [hsz]; exact hil
        simp [this] at hj
      · rw [getD_set_ne true hij] at hj; exact ⟨fun h => hij h.symm, hj⟩
    have hcl' : ∀ j oj, ops[j]? = some oj → (listed.setIfInBounds i true).getD j false = true → ∀ x ∈ oj.after, Region.binds .any x = true → (listed.setIfInBounds i true).getD x.on false = true := by
      intro j oj hj hlj x hx hxb
      by_cases hji : i = j
      · subst hji
        rw [ho'] at hj; cases hj
        exact getD_set_true (hready x hx hxb)
      · rw [getD_set_ne false hji] at hlj
        exact getD_set_true (hcl j oj hj hlj x hx hxb)
    have next : ∀ (a' : Act) (w' : World), (∃ v, a'.tmps = (a.put o.dst v).tmps) → wpAnyIn (FW ro) 0 P .any (oldOps e0 ops).toArray Q f (listed.setIfInBounds i true) a' w' → wpAnyIn (FW ro) 0 P .any ops.toArray Q f (listed.setIfInBounds i true) a' w' := by
      rintro a' w' ⟨v, ha'⟩ hk
      refine ih _ a' w' (by simpa using hsz) hcl' (fun d u hd hw => ?_) hk
      have hne : ∀ x, o.dst = some x → x ≠ d := fun x hx e => by
        subst e
        exact (setun i (hw i o ho' hx)).1 rfl
      rw [ha']
      have : (a.put o.dst v).tmps[d]? = a.tmps[d]? := by
        cases hod : o.dst with
        | none => rfl
        | some x => simp only [Act.put]; rw [Array.getElem?_setIfInBounds_ne (hne x hod)]
      rw [this]
      exact hinv d u hd fun j p hj hp => (setun j (hw j p hj hp)).2
    unfold wpOpIn at hop ⊢
    rw [ho]
    rw [List.getElem?_toArray, old_get, ho', yielded_old] at hop
    simp only [Option.map_some] at hop
    simp only
    have hwant : Region.wanted (oldOne e0 ops o i) (yielded ops.toArray a.tmps) = Region.wanted o (yielded ops.toArray a.tmps) := by
      unfold Region.wanted; rw [(old_same o i).2.1]
    rw [hwant] at hop
    rcases old_turned (e0 := e0) (ops := ops) o i with he | ⟨d, v, hmv, hop', hd, hg, hwr⟩
    · rw [he] at hop
      split
      · rename_i hw; rw [if_pos hw] at hop; exact wpIn_monoP next hop
      · rename_i hw; rw [if_neg hw] at hop; exact ⟨hop.1, next _ _ ⟨_, rfl⟩ hop.2⟩
    · have hw : Region.wanted o (yielded ops.toArray a.tmps) = true := by unfold Region.wanted; rw [hg]
      rw [if_pos hw] at hop ⊢
      have hav : a.tmps[d]? = some v := hinv d v hd fun j p hj hp => by
        cases hq : listed.getD j true with
        | false => rfl
        | true =>
          have hjl : j < ops.length := (List.getElem?_eq_some_iff.1 hj).1
          have hq' : listed.getD j false = true := by
            have hjs : j < listed.size := by rw [hsz]; exact hjl
            simp [hjs] at hq ⊢; exact hq
          obtain ⟨x, hx, hxb, hxo⟩ := onB_spec (hwr j p hj hp)
          have := hcl j p hj hq' x hx hxb
          rw [hxo] at this
          exact (getD_tf hun this).elim
      have hev : a.eval (.tmp d) = v := by simp [Act.eval, hav]
      have hsel : isSelect o.op = false := by rcases hmv with e | e <;> rw [e] <;> rfl
      have hsel' : isSelect (oldOne e0 ops o i).op = false := by rw [hop']; rfl
      have hrun : (execOp a.eval o).run P w = .ok (.value v) w := by
        unfold execOp
        rcases hmv with e | e <;> rw [e] <;> simp [hev]
      have hrun' : (execOp a.eval (oldOne e0 ops o i)).run P w = .ok (.value v) w := by
        unfold execOp
        rw [hop']; simp [Act.eval]
      have hk := hop.2
      rw [Oper.semAt_eq _ _ _ (not_defer hsel'), hrun'] at hk
      simp only [Oper.uponIn] at hk
      rw [(old_same o i).1] at hk
      exact wp_of_run hsel hrun (next _ _ ⟨_, rfl⟩ hk)
end
theorem vcSeqO_sound {ro : Option Nat} {P : Program} {S : List Nat} {ops : List Oper} {id : Nat} {kn : Env → World → Prop} {kp : List PanicEntry → World → Prop} {Q : Exit → Act → World → Prop} {a : Act} {w : World} {e : Env}
    (hm : P.follows .mixedOrders = true)
    (hQn : ∀ e' a' w', kn e' w' → e'.fits a'.tmps → SameOff (dsts ops) a.tmps a'.tmps → a'.defers = a.defers → Q .normal a' w')
    (hQp : ∀ ch a' w', kp ch w' → a'.defers = a.defers → Q (.panic ch) a' w') (hL : ∀ d ∈ dsts ops, d < a.tmps.size)
    (h : vcSeqT P S (oldOps e ops) e w kn kp) (hf : e.fits a.tmps) : (Code.region id ops.toArray true).wpIn (FW ro) 0 P Q a w := by
  have hQn' : ∀ e' a' w', kn e' w' → e'.fits a'.tmps → SameOff (dsts (oldOps e ops)) a.tmps a'.tmps → a'.defers = a.defers → Q .normal a' w' := by rw [old_dsts]; exact hQn
  have hL' : ∀ d ∈ dsts (oldOps e ops), d < a.tmps.size := by rw [old_dsts]; exact hL
  have hlen : (oldOps e ops).length = ops.length := old_len
  unfold vcSeqT at h
  split at h
  · exact h.elim
  · rename_i hok
    unfold seqOk at hok
    simp only [Bool.and_eq_true] at hok
    obtain ⟨⟨⟨⟨⟨⟨hlook, hnd⟩, hlow⟩, hSn⟩, hcov⟩, hSlt⟩, hheavy⟩ := hok
    have hnd' := nodupB_spec _ hnd
    have hlook' : ∀ o ∈ oldOps e ops, looksB (oldOps e ops) o = true := fun o ho => List.all_eq_true.1 hlook o ho
    have hno : ∀ d ∈ dsts (oldOps e ops), (e.drop (dsts (oldOps e ops))).get d = none := fun d hd => by
      rw [get_drop, if_pos]; rw [memB_iff]; exact hd
    have hf0 : (e.drop (dsts (oldOps e ops))).fits a.tmps := fits_drop hf _
    have hfalse : ∀ (i : Nat) (b : Bool), (Array.replicate ops.toArray.size false).getD i b = true → ¬ i < ops.length ∧ b = true := fun i b hb => by
      by_cases hlt : i < ops.length
      · simp [hlt] at hb
      · refine ⟨hlt, ?_⟩
        simp [hlt] at hb; exact hb
    refine wpIn_region_any hm ?_
    have hrest : ∀ (k i : Nat), S[k]? = some i → 0 ≤ k → (Array.replicate ops.toArray.size false).getD i true = false := fun k i hk _ => by
      have hlt : i < ops.length := by
        have := List.all_eq_true.1 hSlt i (List.mem_of_getElem? hk)
        rw [hlen] at this
        simpa using this
      simp [hlt]
    have hfalse' : ∀ (i : Nat) (b : Bool), (Array.replicate ops.toArray.size false).getD i b = true → ¬ i < (oldOps e ops).length ∧ b = true := fun i b hb => by rw [hlen]; exact hfalse i b hb
    refine old_any (e0 := e) _ _ _ _ (by simp) (fun j oj _ hl => by have := (hfalse _ _ hl).2; cases this) (fun d v hd _ => hf d v hd) ?_
    refine seq_any (t := 0) (e := e.drop (dsts (oldOps e ops))) hnd' hlook' hlow (nodupB_spec _ hSn) (fun i hi => (memB_iff _ _).1 (List.all_eq_true.1 hcov i (List.mem_range.2 hi))) (fun i hi => by
      have := List.all_eq_true.1 hSlt i hi
      simpa using this) 0 (fun t i o _ => heavy_spec S hheavy t i o) hL' hQn' hQp _ _ a { w with drawn := w.drawn + 1 } ⟨by simp [hlen], fun j oj _ hl => ?_, fun k i o _ hk => absurd hk (by omega), hrest, rfl, SameOff.refl _ _, fun n v hn => .inl (hf0 n v hn), fun k i o d _ _ ho hd => hno d (mem_dsts hd (List.mem_of_getElem? ho)), fun k i o _ hk => absurd hk (by omega)⟩ (Nat.zero_le _) (Nat.zero_le _) (h _ (Below.refl _ w).drew) ?_
    · have := (hfalse _ _ hl).2; cases this
    · unfold unl
      have : (Array.replicate ops.toArray.size false).toList = List.replicate ops.toArray.size false := by simp
      rw [this]
      have hc : ∀ n : Nat, (List.replicate n false).countP (fun b => !b) = n := fun n => by
        induction n with
        | zero => rfl
        | succ n ih => simp [List.replicate_succ, ih]
      rw [hc]
end Go.Vc
namespace Go.Vc
open Go Go.RowKit

section
variable {ro : Option Nat} {P : Program} {ops : List Oper} {S : List Nat} {a0 : Act} {kn : Env → World → Prop} {kp : List PanicEntry → World → Prop} {Q : Exit → Act → World → Prop}
theorem lightB_false_none {P : Program} {ops : List Oper} {e : Env} {w : World} {pre : List Nat} {i : Nat} {o : Oper} {R : Env → World → Prop} {kp : List PanicEntry → World → Prop} (hl : lightB P o = true) (h : seqStep P ops pre i o e w R kp) :
    ∃ e1 v, (∀ n, Env.get e1 n = Env.get e n) ∧ R (e1.put o.dst v) w ∧ ((wantE ops e o = some true ∧ knownL e1 o.op.operands.toList = true ∧ (execOp (rho e1) o).run P w = .ok (.value v) w ∧ (isLoad o.op = false → ∀ w, (execOp (rho e1) o).run P w = .ok (.value v) w)) ∨ (wantE ops e o = some false ∧ v = undef)) := by
  have run : ∀ e1 : Env, (∀ n, e1.get n = e.get n) → wantE ops e o = some true → seqOp P ops pre i o e1 w R kp →
      ∃ e1 v, (∀ n, Env.get e1 n = Env.get e n) ∧ R (e1.put o.dst v) w ∧ ((wantE ops e o = some true ∧ knownL e1 o.op.operands.toList = true ∧ (execOp (rho e1) o).run P w = .ok (.value v) w ∧ (isLoad o.op = false → ∀ w, (execOp (rho e1) o).run P w = .ok (.value v) w)) ∨ (wantE ops e o = some false ∧ v = undef)) := by
    intro e1 he hw hh
    unfold seqOp at hh
    obtain ⟨hs, hk, v, hr, hp, hkv⟩ := vOp_light hl hh
    rw [hl] at hkv
    exact ⟨e1, v, he, hkv, .inl ⟨hw, hk, hr, hp⟩⟩
  unfold seqStep at h
  split at h
  · rename_i hg
    exact run e (fun _ => rfl) (by unfold wantE; rw [hg]) h
  · rename_i j want hg
    split at h
    · rename_i b hv
      have hw : wantE ops e o = some (b == want) := by unfold wantE; rw [hg]; simp only; rw [hv]
      cases b with
      | true =>
        simp only [Gd] at h
        cases want with
        | true => exact run _ (guardDst_get hv) hw h
        | false => exact ⟨_, _, guardDst_get hv, h, .inr ⟨hw, rfl⟩⟩
      | false =>
        simp only [Gd] at h
        cases want with
        | false => exact run _ (guardDst_get hv) hw h
        | true => exact ⟨_, _, guardDst_get hv, h, .inr ⟨hw, rfl⟩⟩
    · rename_i vs hv
      have hw : wantE ops e o = some false := by unfold wantE; rw [hg]; simp only; rw [hv]
      exact ⟨e, _, fun _ => rfl, h, .inr ⟨hw, rfl⟩⟩
    · exact h.elim
/-- The order in which f comes at t. -/
def insAt (S : List Nat) (f t : Nat) : List Nat := S.take t ++ f :: S.drop t
theorem insAt_take {S : List Nat} {f t : Nat} (h : t ≤ S.length) : (insAt S f t).take t = S.take t := by
  unfold insAt
  rw [List.take_append_of_le_length (by rw [List.length_take]; omega), List.take_take, Nat.min_self]
theorem insAt_drop {S : List Nat} {f t : Nat} (h : t ≤ S.length) : (insAt S f t).drop t = f :: S.drop t := by
  unfold insAt
  rw [List.drop_append_of_le_length (by rw [List.length_take]; omega), List.drop_eq_nil_of_le (by rw [List.length_take]; omega), List.nil_append]
theorem insAt_lt {S : List Nat} {f t k : Nat} (h : t ≤ S.length) (hk : k < t) : (insAt S f t)[k]? = S[k]? := by
  unfold insAt
  rw [List.getElem?_append_left (by rw [List.length_take]; omega), List.getElem?_take_of_lt hk]
theorem insAt_at {S : List Nat} {f t : Nat} (h : t ≤ S.length) : (insAt S f t)[t]? = some f := by
  unfold insAt
  rw [List.getElem?_append_right (by rw [List.length_take]; omega), List.length_take, Nat.min_eq_left h, Nat.sub_self]; rfl
theorem insAt_gt {S : List Nat} {f t k : Nat} (h : t ≤ S.length) (hk : t ≤ k) : (insAt S f t)[k + 1]? = S[k]? := by
  unfold insAt
  rw [List.getElem?_append_right (by rw [List.length_take]; omega), List.length_take, Nat.min_eq_left h, show k + 1 - t = (k - t) + 1 by omega, List.getElem?_cons_succ, List.getElem?_drop, show t + (k - t) = k by omega]
theorem insAt_perm (S : List Nat) (f t : Nat) : (insAt S f t).Perm (f :: S) := by
  unfold insAt
  have := List.perm_middle (l₁ := S.take t) (l₂ := S.drop t) (a := f)
  rwa [List.take_append_drop] at this
theorem insAt_drop_gt {S : List Nat} {f t k : Nat} (h : t ≤ S.length) (hk : t ≤ k) : (insAt S f t).drop (k + 1) = S.drop k := by
  have e : k + 1 = t + (k - t + 1) := by omega
  rw [e, ← List.drop_drop, insAt_drop h, List.drop_succ_cons, List.drop_drop, show t + (k - t) = k by omega]
theorem fapp_lt {S : List Nat} {f k : Nat} (hk : k < S.length) : (S ++ [f])[k]? = S[k]? := List.getElem?_append_left hk
theorem fapp_at {S : List Nat} {f : Nat} : (S ++ [f])[S.length]? = some f := by rw [List.getElem?_append_right (Nat.le_refl _), Nat.sub_self]; rfl
theorem fapp_take {S : List Nat} {f t : Nat} (h : t ≤ S.length) : (S ++ [f]).take t = S.take t := List.take_append_of_le_length h
theorem fat_lt {S : List Nat} {k i : Nat} (h : S[k]? = some i) : k < S.length := (List.getElem?_eq_some_iff.1 h).1
/-- What holds where f comes last holds where f is the next. -/
theorem SInv.ins {f t : Nat} {e : Env} {listed : Array Bool} {a : Act} {w : World} (inv : SInv P ops (S ++ [f]) t a0 e listed a w) (ht : t ≤ S.length) : SInv P ops (insAt S f t) t a0 e listed a w := by
  have lt : ∀ {k i : Nat}, k < t → (insAt S f t)[k]? = some i → (S ++ [f])[k]? = some i := fun hlt hk => by
    rw [insAt_lt ht hlt] at hk; rw [fapp_lt (fat_lt hk)]; exact hk
  have ge : ∀ {k i : Nat}, t ≤ k → (insAt S f t)[k]? = some i → ∃ k', t ≤ k' ∧ (S ++ [f])[k']? = some i := fun {k i} hle hk => by
    rcases Nat.eq_or_lt_of_le hle with h | h
    · subst h; rw [insAt_at ht] at hk; cases hk; exact ⟨S.length, ht, fapp_at⟩
    · obtain ⟨k', rfl⟩ : ∃ k', k = k' + 1 := ⟨k - 1, by omega⟩
      rw [insAt_gt ht (by omega)] at hk
      exact ⟨k', by omega, by rw [fapp_lt (fat_lt hk)]; exact hk⟩
  refine ⟨inv.size, inv.closed, fun k i o hk hlt => inv.done k i o (lt hlt hk) hlt, fun k i hk hle => ?_, inv.defers, inv.same, inv.frame, fun k i o d hk hle ho hd => ?_, fun k i o hk hlt => inv.float k i o (lt hlt hk) hlt⟩
  · obtain ⟨k', h1, h2⟩ := ge hle hk
    exact inv.rest k' i h2 h1
  · obtain ⟨k', h1, h2⟩ := ge hle hk
    exact inv.fresh k' i o d h2 h1 ho hd
/-- On to the next heavy one, or to where all that follow wait for f. -/
theorem flt_adv (hnd : (dsts ops).Nodup) {f : Nat} (hSn : (S ++ [f]).Nodup) {listed : Array Bool} {a : Act} {w : World} : ∀ (m t : Nat) (e : Env), S.length - t = m → t ≤ S.length → SInv P ops (S ++ [f]) t a0 e listed a w → vcFlt P ops f kn kp (S.drop t) (S.take t).reverse e w →
    ∃ t' e', SInv P ops (S ++ [f]) t' a0 e' listed a w ∧ t ≤ t' ∧ t' ≤ S.length ∧ vcSeq P ops kn kp (f :: S.drop t') (S.take t').reverse e' w ∧
      (aftOk ops (S.drop t') [f] = true ∨ ∃ i o, S[t']? = some i ∧ ops[i]? = some o ∧ lightB P o = false ∧ seqStep P ops (S.take t').reverse i o e' w (fun e w => vcFlt P ops f kn kp (S.drop (t' + 1)) (S.take (t' + 1)).reverse e w) kp) := by
  intro m
  induction m with
  | zero =>
    intro t e hm ht inv h
    rw [List.drop_eq_nil_of_le (by omega)] at h
    unfold vcFlt at h
    refine ⟨t, e, inv, Nat.le_refl _, ht, ?_, .inl ?_⟩
    · rw [List.drop_eq_nil_of_le (by omega)]; exact h
    · rw [List.drop_eq_nil_of_le (by omega)]; rfl
  | succ m ih =>
    intro t e hm ht inv h
    have hi : S[t]? = some (S[t]'(by omega)) := List.getElem?_eq_getElem (by omega)
    generalize (S[t]'(by omega)) = i at hi
    have hd := drop_at hi
    have h0 := h
    rw [hd] at h
    unfold vcFlt at h
    split at h
    · rename_i hok
      refine ⟨t, e, inv, Nat.le_refl _, ht, ?_, .inl ?_⟩ <;> rw [hd]
      · exact h
      · exact hok
    · split at h
      · exact h.elim
      · rename_i o ho
        split at h
        · rename_i hl
          rw [← pre_succ hi] at h
          obtain ⟨e1, v, he, hk, hv⟩ := lightB_false_none hl h
          obtain ⟨t', e', h1, h2, h3⟩ := ih (t + 1) _ (by omega) (by omega) (inv.grow hnd hSn (by rw [fapp_lt (fat_lt hi)]; exact hi) ho hl he hv) hk
          exact ⟨t', e', h1, by omega, h3⟩
        · rename_i hl
          rw [← pre_succ hi] at h
          exact ⟨t, e, inv, Nat.le_refl _, ht, by rw [hd]; exact h.1, .inr ⟨i, o, hi, ho, hl, h.2⟩⟩
theorem flt_any {f : Nat} (hnd : (dsts ops).Nodup) (hlook : ∀ o ∈ ops, looksB ops o = true) (hlow : lowB ops = true) (hSn : (f :: S).Nodup) (hcov : ∀ i, i < ops.length → i ∈ f :: S) (hSlt : ∀ i ∈ f :: S, i < ops.length) (hheavy : heavyOk P ops S = true)
    (hfl : ∃ o, ops[f]? = some o ∧ lightB P o = false)
    (hsz : ∀ d ∈ dsts ops, d < a0.tmps.size)
    (hQn : ∀ e' a' w', kn e' w' → e'.fits a'.tmps → SameOff (dsts ops) a0.tmps a'.tmps → a'.defers = a0.defers → Q .normal a' w')
    (hQp : ∀ ch a' w', kp ch w' → a'.defers = a0.defers → Q (.panic ch) a' w') :
    ∀ (n : Nat) (listed : Array Bool) (a : Act) (w : World) (e : Env) (t : Nat), SInv P ops (S ++ [f]) t a0 e listed a w → t ≤ S.length → vcFlt P ops f kn kp (S.drop t) (S.take t).reverse e w → unl listed = n →
      wpAnyIn (FW ro) 0 P .any ops.toArray Q n listed a w := by
  have hpa : (S ++ [f]).Perm (f :: S) := List.perm_append_singleton f S
  have hSa : (S ++ [f]).Nodup := hpa.nodup_iff.2 hSn
  intro n
  induction n with
  | zero =>
    intro listed a w e t inv ht h hu
    have hfl : f < ops.length := hSlt f (by simp)
    have := unl_set (inv.rest _ _ fapp_at ht)
    omega
  | succ n ih =>
    intro listed a w e0 t0 inv0 ht0 h0 hu
    obtain ⟨t, e, inv, htt, ht, hv, hend⟩ := flt_adv hnd hSa _ t0 e0 rfl ht0 inv0 h0
    have hf : listed.getD f true = false := inv.rest _ _ fapp_at ht
    have hSn' : (insAt S f t).Nodup := (insAt_perm S f t).nodup_iff.2 hSn
    have hcov' : ∀ i, i < ops.length → i ∈ insAt S f t := fun i hi => (insAt_perm S f t).mem_iff.2 (hcov i hi)
    have hSlt' : ∀ i ∈ insAt S f t, i < ops.length := fun i hi => hSlt i ((insAt_perm S f t).mem_iff.1 hi)
    have hlen' : (insAt S f t).length = S.length + 1 := (insAt_perm S f t).length_eq
    have inv' := inv.ins ht
    have hv' : vcSeq P ops kn kp ((insAt S f t).drop t) ((insAt S f t).take t).reverse e w := by rw [insAt_drop ht, insAt_take ht]; exact hv
    have hafter : ∀ t' i o, t + 1 ≤ t' → (insAt S f t)[t']? = some i → ops[i]? = some o → lightB P o = false → aftOk ops ((insAt S f t).drop (t' + 1)) [i] = true := fun t' i o hle hi ho hl => by
      obtain ⟨k, rfl⟩ : ∃ k, t' = k + 1 := ⟨t' - 1, by omega⟩
      rw [insAt_gt ht (by omega)] at hi
      rw [insAt_drop_gt ht (by omega)]
      exact heavy_spec S hheavy k i o hi ho hl
    rcases hend with hend | ⟨ih', oh, hih, hoh, hlh, hstep⟩
    · refine seq_any hnd hlook hlow hSn' hcov' hSlt' t (fun t' i o hle hi ho hl => ?_) hsz hQn hQp (n + 1) listed a w e t inv' (Nat.le_refl _) (by omega) hv' hu
      rcases Nat.eq_or_lt_of_le hle with h | h
      · subst h
        rw [insAt_at ht] at hi; cases hi
        rw [insAt_drop_gt ht (Nat.le_refl _)]
        exact hend
      · exact hafter t' i o h hi ho hl
    · refine ⟨fun h0 => absurd h0 (ready_of_unlisted hlow inv.size _ f (Nat.le_refl _) (hSlt f (by simp)) hf), fun i hi => ?_⟩
      have hun := (mem_ready.1 hi).1
      have hil : i < ops.length := by
        obtain ⟨_, o, ho, _⟩ := mem_ready.1 hi
        have ho' : ops[i]? = some o := by simpa using ho
        exact (List.getElem?_eq_some_iff.1 ho').1
      have hu' : unl (listed.setIfInBounds i true) = n := by have := unl_set hun; omega
      by_cases hif : i = f
      · subst hif
        obtain ⟨of, hof, hlf⟩ := hfl
        refine seq_one (R := fun e w => vcSeq P ops kn kp ((insAt S i t).drop (t + 1)) ((insAt S i t).take (t + 1)).reverse e w) hnd hlook hSn' hsz hQp inv' hi (insAt_at ht) (fun hkt => absurd hkt (Nat.lt_irrefl _)) (fun _ => ⟨rfl, of, hof, hlf, ?_⟩) fun _ e' a' w' inv2 hr => ?_
        · rw [insAt_drop ht] at hv'
          unfold vcSeq at hv'
          rw [hof] at hv'
          rw [pre_succ (insAt_at ht), insAt_drop_gt ht (Nat.le_refl _)]
          exact hv'
        · exact seq_any hnd hlook hlow hSn' hcov' hSlt' (t + 1) hafter hsz hQn hQp n _ _ _ e' (t + 1) inv2 (Nat.le_refl _) (by omega) hr hu'
      · have hiS : i ∈ S := (List.mem_cons.1 (hcov i hil)).resolve_left hif
        obtain ⟨k, hkS⟩ := List.getElem?_of_mem hiS
        have hkl := fat_lt hkS
        have hkA : (S ++ [f])[k]? = some i := by rw [fapp_lt hkl]; exact hkS
        have htl := fat_lt hih
        refine seq_one (R := fun e w => vcFlt P ops f kn kp (S.drop (k + 1)) (S.take (k + 1)).reverse e w) hnd hlook hSa hsz hQp inv hi hkA (fun hkt a' inv2 => ?_) (fun hkt => ?_) fun hkt e' a' w' inv2 hr => ih _ _ _ e' (k + 1) inv2 (by omega) hr hu'
        · refine ih _ _ _ e t inv2 ht ?_ hu'
          rw [drop_at hih]
          unfold vcFlt
          rw [← drop_at hih]
          split
          · exact hv
          · rw [hoh]
            simp only
            rw [hlh]
            simp only
            exact ⟨hv, by rw [← pre_succ hih]; exact hstep⟩
        · obtain ⟨_, o, ho, hready⟩ := mem_ready.1 hi
          have ho' : ops[i]? = some o := by simpa using ho
          have hit : k = t := by
            rcases Nat.eq_or_lt_of_le (Nat.not_lt.1 hkt) with h2 | h2
            · exact h2.symm
            · exfalso
              have ha := heavy_spec S hheavy t ih' oh hih hoh hlh
              have h3 := aft_spec (i := ih') inv.closed _ [ih'] (fun x hx hlx => by rw [List.mem_singleton] at hx; rw [hx] at hlx; exact hlx) ha i (by
                have : (S.drop (t + 1))[k - (t + 1)]? = some i := by rw [List.getElem?_drop, show t + 1 + (k - (t + 1)) = k by omega]; exact hkS
                exact List.mem_of_getElem? this) o ho' hready
              exact getD_tf (inv.rest t ih' (by rw [fapp_lt htl]; exact hih) (Nat.le_refl _)) h3
          subst hit
          rw [hkS] at hih; cases hih
          exact ⟨rfl, oh, hoh, hlh, by rw [fapp_take (Nat.le_of_lt hkl)]; exact hstep⟩
end
theorem vcFltT_sound {ro : Option Nat} {P : Program} {T : List Nat} {ops : List Oper} {id : Nat} {kn : Env → World → Prop} {kp : List PanicEntry → World → Prop} {Q : Exit → Act → World → Prop} {a : Act} {w : World} {e : Env}
    (hm : P.follows .mixedOrders = true)
    (hQn : ∀ e' a' w', kn e' w' → e'.fits a'.tmps → SameOff (dsts ops) a.tmps a'.tmps → a'.defers = a.defers → Q .normal a' w')
    (hQp : ∀ ch a' w', kp ch w' → a'.defers = a.defers → Q (.panic ch) a' w') (hL : ∀ d ∈ dsts ops, d < a.tmps.size)
    (h : vcFltT P T ops e w kn kp) (hf : e.fits a.tmps) : (Code.region id ops.toArray true).wpIn (FW ro) 0 P Q a w := by
  unfold vcFltT at h
  split at h
  · exact h.elim
  rename_i f S
  split at h
  · exact h.elim
  · rename_i hok
    unfold fltOk at hok
    simp only [Bool.and_eq_true] at hok
    obtain ⟨⟨⟨⟨⟨⟨⟨hlook, hnd⟩, hlow⟩, hSn⟩, hcov⟩, hSlt⟩, hheavy⟩, hfl⟩ := hok
    have hnd' := nodupB_spec _ hnd
    have hSn' := nodupB_spec _ hSn
    have hlook' : ∀ o ∈ ops, looksB ops o = true := fun o ho => List.all_eq_true.1 hlook o ho
    have hlt : ∀ i ∈ f :: S, i < ops.length := fun i hi => by
      have := List.all_eq_true.1 hSlt i hi
      simpa using this
    have hfl' : ∃ o, ops[f]? = some o ∧ lightB P o = false := by
      split at hfl
      · rename_i o ho; exact ⟨o, ho, by simpa using hfl⟩
      · cases hfl
    have hno : ∀ d ∈ dsts ops, (e.drop (dsts ops)).get d = none := fun d hd => by
      rw [get_drop, if_pos]; rw [memB_iff]; exact hd
    have hf0 : (e.drop (dsts ops)).fits a.tmps := fits_drop hf _
    have hfalse : ∀ (i : Nat) (b : Bool), (Array.replicate ops.toArray.size false).getD i b = true → ¬ i < ops.length ∧ b = true := fun i b hb => by
      by_cases hlt : i < ops.length
      · simp [hlt] at hb
      · refine ⟨hlt, ?_⟩
        simp [hlt] at hb; exact hb
    refine wpIn_region_any hm ?_
    have hrest : ∀ (k i : Nat), (S ++ [f])[k]? = some i → 0 ≤ k → (Array.replicate ops.toArray.size false).getD i true = false := fun k i hk _ => by
      have hlt : i < ops.length := hlt i ((List.perm_append_singleton f S).mem_iff.1 (List.mem_of_getElem? hk))
      simp [hlt]
    refine flt_any (t := 0) (e := e.drop (dsts ops)) hnd' hlook' hlow hSn' (fun i hi => (memB_iff _ _).1 (List.all_eq_true.1 hcov i (List.mem_range.2 hi))) hlt hheavy hfl' hL hQn hQp _ _ a { w with drawn := w.drawn + 1 } ⟨by simp, fun j oj _ hl => ?_, fun k i o _ hk => absurd hk (by omega), hrest, rfl, SameOff.refl _ _, fun n v hn => .inl (hf0 n v hn), fun k i o d _ _ ho hd => hno d (mem_dsts hd (List.mem_of_getElem? ho)), fun k i o _ hk => absurd hk (by omega)⟩ (Nat.zero_le _) (h _ (Below.refl _ w).drew) ?_
    · have := (hfalse _ _ hl).2; cases this
    · unfold unl
      have : (Array.replicate ops.toArray.size false).toList = List.replicate ops.toArray.size false := by simp
      rw [this]
      have hc : ∀ n : Nat, (List.replicate n false).countP (fun b => !b) = n := fun n => by
        induction n with
        | zero => rfl
        | succ n ih => simp [List.replicate_succ, ih]
      rw [hc]
end Go.Vc
namespace Go.Vc
open Go Go.RowKit

section
variable {P : Program} {fr : Frame} {cs : List Frame} {w w1 : World} {es : Array Event} {q cap s r : Nat} {buf : Array Value} {c : CommCase} {v : Value}
theorem step_sel_send (h : stepG P true (Conc.G fr cs) w = .comm (Conc.G fr cs) #[c] false .select w1 es) (hq : c.chan = .chan (some q)) (hs : c.send = some v) (hc : w1.heap[q]? = some (.chan cap buf false s r false)) (hroom : buf.size < cap) :
    step P (lone fr cs w) = .next (lone (fr.finish (.tuple #[goInt 0, .bool false])) cs { w1 with heap := w1.heap.setIfInBounds q (.chan cap (buf.push v) false (s + 1) r false) }) := by
  have hp := Conc.partners_alone (c := q) false
  show step P (Conc.solo (Conc.G fr cs) w) = _
  rw [step, Conc.stepT_solo rfl]
  simp [runT, Conc.solo, Conc.G, lone, Array.swapAt!, Array.swapAt, h, GStep.es, communicate, ways, hq, hs, hc, hp, hroom, choose, Sem.run, Question.forced, bind, Sem.bind, pure, Goroutine.finishComm, commResult] at h ⊢
theorem step_sel_recv (h : stepG P true (Conc.G fr cs) w = .comm (Conc.G fr cs) #[c] false .select w1 es) (hq : c.chan = .chan (some q)) (hs : c.send = none) (hc : w1.heap[q]? = some (.chan cap buf false s r false)) (hsome : 0 < buf.size) :
    step P (lone fr cs w) = .next (lone (fr.finish (.tuple #[goInt 0, .bool true, buf.getD 0 undef])) cs { w1 with heap := w1.heap.setIfInBounds q (.chan cap (buf.extract 1 buf.size) false s (r + 1) false) }) := by
  have hp := Conc.partners_alone (c := q) true
  show step P (Conc.solo (Conc.G fr cs) w) = _
  rw [step, Conc.stepT_solo rfl]
  simp [runT, Conc.solo, Conc.G, lone, Array.swapAt!, Array.swapAt, h, GStep.es, communicate, ways, hq, hs, hc, hp, hsome, choose, Sem.run, Question.forced, bind, Sem.bind, pure, Goroutine.finishComm, commResult] at h ⊢
theorem step_sel_none (h : stepG P true (Conc.G fr cs) w = .comm (Conc.G fr cs) #[c] false .select w1 es) (hq : c.chan = .chan (some q)) (hs : c.send = none) (hc : w1.heap[q]? = some (.chan cap #[] false s r false)) :
    step P (lone fr cs w) = .next (lone (fr.finish (.tuple #[goInt (-1), .bool false, c.zero])) cs w1) := by
  have hp := Conc.partners_alone (c := q) true
  show step P (Conc.solo (Conc.G fr cs) w) = _
  rw [step, Conc.stepT_solo rfl]
  simp [runT, Conc.solo, Conc.G, lone, Array.swapAt!, Array.swapAt, h, GStep.es, communicate, ways, hq, hs, hc, hp, Goroutine.finishComm, commResult] at h ⊢
end
end Go.Vc
namespace Go.Vc
open Go Go.RowKit

theorem dsts_sublist {l m : List Oper} (h : l.Sublist m) : (dsts l).Sublist (dsts m) := by
  induction h with
  | slnil => exact List.Sublist.refl _
  | cons x _ ih => rw [dsts_cons x]; exact List.Sublist.trans ih (List.sublist_append_right _ _)
  | cons_cons x _ ih => rw [dsts_cons x, dsts_cons x]; exact List.Sublist.append (List.Sublist.refl _) ih
theorem late_cls {P : Program} {l : Lates} {o : Oper} {x : LK} (h : lateOf P l o = some x) : cls P o.op = 0 ∧ isLoad o.op = false := by
  obtain ⟨dst, op, type, pos, after, guard⟩ := o
  unfold lateOf at h
  cases guard with
  | some g => simp at h
  | none =>
    cases dst with
    | none => simp at h
    | some d =>
      simp only at h
      split at h
      · exact ⟨rfl, rfl⟩
      · exact ⟨rfl, rfl⟩
      · exact ⟨rfl, rfl⟩
      · rename_i c
        split at h
        · rename_i hcal
          split at h
          · split at h
            · split at h
              · rename_i t0 ht0
                split at h
                · rename_i hsl
                  have hmp : isMp P t0 = false := by
                    unfold isSl at hsl
                    unfold isMp
                    split at hsl
                    · rename_i hu; rw [hu]
                    · cases hsl
                  refine ⟨?_, rfl⟩
                  simp only [cls, hcal, ht0, hmp]
                · cases h
              · cases h
            · cases h
          · cases h
        · cases h
      · cases h
theorem countP_not_replicate (n : Nat) (b : Bool) : (List.replicate n b).countP (fun b => !b) = if b then 0 else n := by
  rw [List.countP_replicate]; cases b <;> simp
theorem preL_spec (T : List Nat) : ∀ (l : List (Oper × Nat)), ∀ o, o ∈ preL T l ↔ ∃ i, (o, i) ∈ l ∧ i ∉ T
  | [], o => by simp [preL]
  | (x, j) :: r, o => by
    simp only [preL]
    split
    · rename_i hm
      have hj := (memB_iff _ _).1 hm
      rw [preL_spec T r o]
      constructor
      · rintro ⟨i, h1, h2⟩; exact ⟨i, by simp [h1], h2⟩
      · rintro ⟨i, h1, h2⟩
        rcases List.mem_cons.1 h1 with h | h
        · cases h; exact absurd hj h2
        · exact ⟨i, h, h2⟩
    · rename_i hm
      have hj := (memB_false _ _).1 hm
      rw [List.mem_cons, preL_spec T r o]
      constructor
      · rintro (h | ⟨i, h1, h2⟩)
        · subst h; exact ⟨j, by simp, hj⟩
        · exact ⟨i, by simp [h1], h2⟩
      · rintro ⟨i, h1, h2⟩
        rcases List.mem_cons.1 h1 with h | h
        · cases h; exact .inl rfl
        · exact .inr ⟨i, h, h2⟩
theorem preL_sub (T : List Nat) : ∀ (l : List (Oper × Nat)), (preL T l).Sublist (l.map (·.1))
  | [] => List.Sublist.refl _
  | (x, j) :: r => by
    simp only [preL, List.map_cons]
    split
    · exact (preL_sub T r).trans (List.sublist_cons_self _ _)
    · exact (preL_sub T r).cons_cons _
theorem preL_sublist (T : List Nat) (ops : List Oper) : (preL T ops.zipIdx).Sublist ops := by
  have := preL_sub T ops.zipIdx
  rwa [List.zipIdx_map_fst] at this
theorem preL_mem {T : List Nat} {ops : List Oper} {i : Nat} {o : Oper} (ho : ops[i]? = some o) (hi : i ∉ T) : o ∈ preL T ops.zipIdx :=
  (preL_spec T _ o).2 ⟨i, by rw [List.mem_zipIdx_iff_getElem?]; exact ho, hi⟩
theorem preL_idx {T : List Nat} {ops : List Oper} {o : Oper} (ho : o ∈ preL T ops.zipIdx) : ∃ i, i ∉ T ∧ ops[i]? = some o := by
  obtain ⟨i, h1, h2⟩ := (preL_spec T _ o).1 ho
  exact ⟨i, h2, by rw [List.mem_zipIdx_iff_getElem?] at h1; exact h1⟩
theorem vcDrawT_sound {ro : Option Nat} {P : Program} {T : List Nat} {ops : List Oper} {id : Nat} {kn : Env → World → Prop} {kp : List PanicEntry → World → Prop} {Q : Exit → Act → World → Prop} {a : Act} {w : World} {e : Env}
    (hm : P.follows .mixedOrders = true)
    (hQn : ∀ e' a' w', kn e' w' → e'.fits a'.tmps → SameOff (dsts ops) a.tmps a'.tmps → a'.defers = a.defers → Q .normal a' w')
    (hQp : ∀ ch a' w', kp ch w' → a'.defers = a.defers → Q (.panic ch) a' w') (hL : ∀ d ∈ dsts ops, d < a.tmps.size)
    (h : vcDrawT P T ops e w kn kp) (hf : e.fits a.tmps) : (Code.region id ops.toArray true).wpIn (FW ro) 0 P Q a w := by
  unfold vcDrawT at h
  split at h
  · exact h.elim
  · rename_i hok
    unfold okDraw at hok
    simp only [Bool.and_eq_true] at hok
    obtain ⟨⟨⟨⟨⟨⟨hlook, hnd⟩, hlow⟩, hTn⟩, hsel⟩, hchain⟩, hfloat⟩ := hok
    have hTnd := nodupB_spec _ hTn
    have hpre : (preL T ops.zipIdx).Sublist ops := preL_sublist T ops
    have hnd' := nodupB_spec _ hnd
    have hlook' : ∀ o ∈ ops, looksB ops o = true := fun o ho => List.all_eq_true.1 hlook o ho
    have hsub : ∀ {l : List Oper}, l.Sublist ops → (dsts l).Sublist (dsts ops) := dsts_sublist
    have hndt : (dsts (preL T ops.zipIdx)).Nodup := (hsub hpre).nodup hnd'
    have hno : ∀ d ∈ dsts ops, (e.drop (dsts ops)).get d = none := fun d hd => by
      rw [get_drop, if_pos]; rw [memB_iff]; exact hd
    have hmemt : ∀ {i : Nat} {o : Oper}, ops[i]? = some o → i ∉ T → o ∈ preL T ops.zipIdx := fun ho him => preL_mem ho him
    have hidx : ∀ {o : Oper}, o ∈ preL T ops.zipIdx → ∃ i, i ∉ T ∧ ops[i]? = some o := fun ho => preL_idx ho
    obtain ⟨e1, hA, hs1, hout, hdet, hnoA⟩ := vcQ_out (preL T ops.zipIdx) (e.drop (dsts ops)) [] hndt (fun d hd => hno d ((hsub hpre).subset hd)) h
    obtain ⟨AL, hal, hALs, hALu, hALn, hfin⟩ := vcA_out (preL T ops.zipIdx) [] hndt hA
    obtain ⟨_, hF2, hF3, hF4⟩ := latesF_spec (P := P) (preL T ops.zipIdx) [] hndt (fun _ _ => rfl)
    have hLT : ∀ o ∈ lateL P (preL T ops.zipIdx) [], isAl P o = false ∧ o.guard = none ∧ ∃ x d, lateOf P (latesF P (preL T ops.zipIdx) []) o = some x ∧ o.dst = some d ∧ (latesF P (preL T ops.zipIdx) []).get d = some x :=
      fun o ho => ⟨(lateL_sub _ _ o ho).2.1, (lateL_sub _ _ o ho).2.2.1, hF3 o ho⟩
    have hLTc : ∀ o ∈ lateL P (preL T ops.zipIdx) [], cls P o.op = 0 ∧ isLoad o.op = false := fun o ho => by
      obtain ⟨_, _, x, d, hl, _⟩ := hLT o ho
      exact late_cls hl
    have hnone : ∀ i o d, ops[i]? = some o → ((isAl P o = true ∨ o ∈ lateL P (preL T ops.zipIdx) []) ∨ i ∈ T) → o.dst = some d → e1.get d = none := by
      intro i o d ho hc hd
      rcases Classical.em (i ∈ T) with him | him
      · have hnt : d ∉ dsts (preL T ops.zipIdx) := fun hdt => by
          obtain ⟨j, oj, hj, hjd⟩ := dsts_mem hdt
          obtain ⟨k, hkT, hk⟩ := hidx (List.mem_of_getElem? hj)
          have := same_dst hnd' ho hk hd hjd
          exact hkT (this ▸ him)
        rw [hout d hnt]
        exact hno d (mem_dsts hd (List.mem_of_getElem? ho))
      · rcases hc with hc | hc
        · exact hnoA o (hmemt ho him) hc d hd
        · exact absurd hc him
    have hf0 : (e.drop (dsts ops)).fits a.tmps := fits_drop hf _
    refine wpIn_region_any hm ?_
    have hinit : DInv P ops T a w e1 AL (lateL P (preL T ops.zipIdx) []) (latesF P (preL T ops.zipIdx) []) (Array.replicate ops.toArray.size false) a { w with drawn := w.drawn + 1 } := by
      refine ⟨by simp, fun j oj _ hl => ?_, fun t ht => getD_in (by simpa using chainOk_lt hchain t ht) (getD_replicate_false _ _), ?_, rfl, SameOff.refl _ _, ?_, ?_, ?_, ?_⟩
      · rw [getD_replicate_false] at hl; cases hl
      · exact (Below.refl _ w).drew
      · intro i o d _ hl; rw [getD_replicate_false] at hl; cases hl
      · intro o _ i _ hl; rw [getD_replicate_false] at hl; cases hl
      · intro i o d n _ hl; rw [getD_replicate_false] at hl; cases hl
      · exact ⟨fun _ => (0, 0), (fun p _ i d _ hl => by rw [getD_replicate_false] at hl; cases hl), (fun p _ q _ i j d c _ _ hl => by rw [getD_replicate_false] at hl; cases hl)⟩
    have hu0 : unl (Array.replicate ops.toArray.size false) = ops.toArray.size := by
      unfold unl
      have : (Array.replicate ops.toArray.size false).toList = List.replicate ops.toArray.size false := by simp
      rw [this, countP_not_replicate]; rfl
    refine dinv_any (e0 := e.drop (dsts ops)) hnd' hlook' hlow hchain hf0 (fun n hn => hout n fun hd => hn ((hsub hpre).subset hd)) hL
      (fun i o ho him => hdet o (hmemt ho him)) hnone hLT
      (fun i o d ho him hisal hd => hF2 o (hmemt ho him) hisal d hd)
      (fun t y hF => by
        rcases hF4 t y hF with h | ⟨o, ho, hd, hc⟩
        · cases h
        · obtain ⟨j, _, hj⟩ := hidx ho
          exact ⟨j, o, hj, hd, hc⟩)
      (fun i o ho him hisal => hal o (hmemt ho him) hisal) (fun p hp => ⟨(hALs p hp).1, (hALs p hp).2.2.1⟩) hALu ?_ _ _ _ _ hinit hu0
    -- behind the first part: but for those that come late
    intro listed a' w' f inv hall hu
    have hsz : listed.size = ops.length := inv.size
    have hclosed : ∀ j oj, ops[j]? = some oj → listed.getD j false = true → ∀ x ∈ oj.after, Region.binds .any x = true → listed.getD x.on false = true := inv.closed
    have hfl : ∀ i o, i ∉ T → ops[i]? = some o → listed.getD i true = false → floatB P o = true ∧ memB (sunk ops T) i = false := by
      intro i o him ho hun
      unfold floatersOk at hfloat
      have h1 := List.all_eq_true.1 hfloat i (List.mem_range.2 (List.getElem?_eq_some_iff.1 ho).1)
      split at h1
      · rename_i hs
        exact absurd ((memB_iff _ _).1 hs) him
      · split at h1
        · rename_i hs
          exact absurd (hall i him ((memB_iff _ _).1 hs)) (fun h => getD_tf hun h)
        · rename_i hs
          rw [ho] at h1
          exact ⟨h1, hs⟩
    let R : Nat → Value → Prop := fun n v => a'.tmps[n]? = some v ∨ Pend ops T listed n
    have hR1 : ∀ n v, e1.get n = some v → R n v := by
      intro n v hn
      by_cases hd : n ∈ dsts ops
      · obtain ⟨j, oj, hj, hjd⟩ := dsts_mem hd
        have hjal : isAl P oj = false := by
          cases hq : isAl P oj with
          | false => rfl
          | true => rw [hnone j oj n hj (.inl (.inl hq)) hjd] at hn; cases hn
        have hjlt : oj ∉ lateL P (preL T ops.zipIdx) [] := fun hq => by rw [hnone j oj n hj (.inl (.inr hq)) hjd] at hn; cases hn
        have hjm : j ∉ T := fun h => by rw [hnone j oj n hj (.inr h) hjd] at hn; cases hn
        have hjl := (List.getElem?_eq_some_iff.1 hj).1
        by_cases hlj : listed.getD j false = true
        · exact .inl (by rw [inv.det j oj n hj hlj hjal hjlt hjd]; exact hn)
        · exact .inr ⟨j, oj, hjm, hj, hjd, unl_false (by omega) hlj⟩
      · refine .inl ?_
        rw [inv.same.2 n (by rw [memB_false]; exact hd)]
        refine hf0 n v ?_
        rw [← hout n fun h => hd ((hsub hpre).subset h)]; exact hn
    obtain ⟨iv, hiv1, hiv2⟩ := inv.al
    have hlisted : ∀ p ∈ AL, ∃ j, ops[j]? = some p.1 ∧ listed.getD j false = true := fun p hp => by
      obtain ⟨j, hjm, hj⟩ := hidx (hALs p hp).2.1
      have hjl := (List.getElem?_eq_some_iff.1 hj).1
      refine ⟨j, hj, ?_⟩
      by_cases hlj : listed.getD j false = true
      · exact hlj
      · have := (hfl j p.1 hjm hj (unl_false (by omega) hlj)).1
        have h2 := (floatB_spec this).2.1
        rw [(hALs p hp).2.2.1] at h2; cases h2
    obtain ⟨e2, hR2, hk, hag⟩ := finA_pend (R := R) (iv := iv) _ _ e1 hR1 (fun x hx => by
      simp only [List.nil_append, List.mem_map] at hx
      obtain ⟨p, hp, rfl⟩ := hx
      obtain ⟨j, hj, hlj⟩ := hlisted p hp
      obtain ⟨d, hd⟩ := (hALs p hp).2.2.2
      obtain ⟨v, hv1, h2, h3, h4, hv2⟩ := hiv1 p hp j d hj hlj hd
      exact ⟨d, v, hd, .inl hv1, h2, h3, h4, hv2⟩) (by rw [List.nil_append, List.map_map]; exact hALn) (fun x hx y hy d c hd hc hdc => by
      simp only [List.nil_append, List.mem_map] at hx hy
      obtain ⟨p, hp, rfl⟩ := hx
      obtain ⟨q, hq, rfl⟩ := hy
      obtain ⟨j, hj, hlj⟩ := hlisted p hp
      obtain ⟨j', hj', hlj'⟩ := hlisted q hq
      exact hiv2 p hp q hq j j' d c hj hj' hlj hlj' hd hc hdc) (fun x _ d _ p hp => by cases hp) (hfin w' inv.below)
    have hs12 : Sub e1 e2 := fun n v hn => by
      rw [hag n ?_]
      · exact hn
      · intro x hx hxn
        simp only [List.nil_append, List.mem_map] at hx
        obtain ⟨p, hp, rfl⟩ := hx
        obtain ⟨j, hjm, hj⟩ := hidx (hALs p hp).2.1
        rw [hnone j p.1 n hj (.inl (.inl (hALs p hp).2.2.1)) hxn] at hn
        cases hn
    have he2n : ∀ i o d, ops[i]? = some o → (o ∈ lateL P (preL T ops.zipIdx) [] ∨ i ∈ T) → o.dst = some d → e2.get d = none := by
      intro i o d ho hc hd
      rw [hag d ?_]
      · exact hnone i o d ho (hc.elim (fun h => .inl (.inr h)) .inr) hd
      · intro x hx hxd
        simp only [List.nil_append, List.mem_map] at hx
        obtain ⟨p, hp, rfl⟩ := hx
        obtain ⟨j, hjm, hj⟩ := hidx (hALs p hp).2.1
        have hij := same_dst hnd' ho hj hd hxd
        subst hij
        have : o = p.1 := Option.some.inj (ho.symm.trans hj)
        rcases hc with hc | hc
        · have h1 := (hLT o hc).1
          rw [this, (hALs p hp).2.2.1] at h1; cases h1
        · exact hjm hc
    obtain ⟨e3, hR3, hk3, hs23, hag3, hlate⟩ := late_pend (R := R) (lateL P (preL T ops.zipIdx) []) e2 hR2 ((dsts_sublist (lateL_sublist _ _)).nodup hndt) (fun o ho => by
        obtain ⟨h1, h2, h3, d, hd⟩ := lateL_sub _ _ o ho
        obtain ⟨j, hjm, hj⟩ := hidx h1
        exact ⟨h3, (hLTc o ho).1, d, hd, he2n j o d hj (.inl ho) hd⟩) (fun o ho e' v d hR' hs hk' hrun hd => by
        obtain ⟨h1, h2, h3, _⟩ := lateL_sub _ _ o ho
        obtain ⟨j, hjm, hj⟩ := hidx h1
        have hjl := (List.getElem?_eq_some_iff.1 hj).1
        by_cases hlj : listed.getD j false = true
        · obtain ⟨v0, hv1, hv2⟩ := inv.late o ho j hj hlj
          have hagree : ∀ x ∈ o.op.operands, rho e' x = a'.eval x := by
            intro x hx
            have key : ∀ (l : List Operand), knownL e' l = true → x ∈ l → ∃ v, ev e' x = some v := by
              intro l
              induction l with
              | nil => intro _ h; cases h
              | cons y r ihr =>
                intro hk h
                simp only [knownL] at hk
                split at hk
                · rename_i v hv
                  cases h with
                  | head => exact ⟨v, hv⟩
                  | tail _ h => exact ihr hk h
                · cases hk
            obtain ⟨u, hu'⟩ := key _ hk' (by simpa using hx)
            unfold rho; rw [hu']
            cases x with
            | tmp t =>
              have hlk : t ∈ o.looksAt ops.toArray := by
                unfold Oper.looksAt
                exact List.mem_append_left _ (List.mem_filterMap.2 ⟨.tmp t, by simpa using hx, rfl⟩)
              have hnp : ¬ Pend ops T listed t := by
                rintro ⟨i, oi, hi, hoi, hid, hiun⟩
                obtain ⟨y, hy, hyb, hyo⟩ := looksB_spec (hlook' o (List.mem_of_getElem? hj)) hlk hoi hid
                have := hclosed j o hj hlj y hy hyb
                rw [hyo] at this
                exact getD_tf hiun this
              have := (hR' t u hu').resolve_right hnp
              simp [Act.eval, this]
            | const u => cases hu'; rfl
            | global g => cases hu'; rfl
            | func g => cases hu'; rfl
          have h4 := hrun w'
          rw [execOp_congr o (not_select hs) hagree, hv2 w'] at h4
          cases h4
          exact .inl (hv1 d hd)
        · exact .inr ⟨j, o, hjm, hj, hd, unl_false (by omega) hlj⟩) hk
    refine tail_any (fl := lateLoads ops T) (e := e3) (t := 0) hnd' hlook' hlow hchain hTnd hL hQn hQp f listed a' w' ⟨hsz, hclosed, fun k i h1 h2 => by omega, fun k i h1 h2 => inv.tun i (List.mem_of_getElem? h1), inv.defers, inv.same, hR3, ?_, ?_⟩ (by simpa using hk3) hu
    · intro k i o d hk _ ho hd
      have him := List.mem_of_getElem? hk
      rw [hag3 d ?_]
      · exact he2n i o d ho (.inr him) hd
      · intro hdl
        obtain ⟨j, oj, hj, hjd⟩ := dsts_mem hdl
        have hjl := List.mem_of_getElem? hj
        obtain ⟨h1, _⟩ := lateL_sub _ _ oj hjl
        obtain ⟨k', hkm, hk'⟩ := hidx h1
        have := same_dst hnd' ho hk' hd hjd
        exact hkm (this ▸ him)
    · intro i o him ho hun
      obtain ⟨hfb, hns⟩ := hfl i o him ho hun
      obtain ⟨hg, hnal, hsel', hcl⟩ := floatB_spec hfb
      rcases hdet o (hmemt ho him) with h1 | h1 | h1
      · rw [hnal] at h1; cases h1
      · obtain ⟨_, hkn, v, hv1, hv2⟩ := hlate o h1
        exact ⟨hfb, hkn, v, hv1, hv2 w', fun _ => hv2, fun hl => by rw [(hLTc o h1).2] at hl; cases hl⟩
      · obtain ⟨v, hv, hc⟩ := h1
        have hwant : wantE ops e1 o = some true := by unfold wantE; rw [hg]
        rcases hc with ⟨_, hs, hkn, hpl, _⟩ | ⟨hw, _⟩
        · have hs13 := hs12.trans hs23
          obtain ⟨hk2, hr2⟩ := knownL_sub hs13 _ hkn
          have hex := execOp_congr o (not_select hs) (fun x hx => hr2 x (by simpa using hx))
          refine ⟨hfb, hk2, v, fun d hd => hs13 _ _ (hv d hd), ?_, fun hl w'' => ?_, fun hl => ⟨?_, ?_⟩⟩
          · rw [← hex]
            rcases hcl with hcl | ⟨hcl, _⟩
            · exact hpl.1 hcl w'
            · exact hpl.2 hcl w' inv.below
          · rw [← hex]
            rcases hcl with hcl | ⟨hcl, _⟩
            · exact hpl.1 hcl w''
            · rw [hcl] at hl; cases hl
          · unfold lateLoads
            have hmT : memB T i = false := by rw [memB_false]; exact him
            refine List.mem_filter.2 ⟨?_, by simp [hl, hns, hmT]⟩
            rw [List.mem_zipIdx_iff_getElem?]
            exact ho
          · rcases hcl with hcl | ⟨_, hd⟩
            · rw [isLoad_cls hl] at hcl; cases hcl
            · exact hd
        · rw [hwant] at hw; cases hw
theorem vcDraw_sound {ro : Option Nat} {P : Program} {plan : Plan} {id : Nat} {ops : List Oper} {kn : Env → World → Prop} {kp : List PanicEntry → World → Prop} {Q : Exit → Act → World → Prop} {a : Act} {w : World} {e : Env}
    (hm : P.follows .mixedOrders = true)
    (hQn : ∀ e' a' w', kn e' w' → e'.fits a'.tmps → SameOff (dsts ops) a.tmps a'.tmps → a'.defers = a.defers → Q .normal a' w')
    (hQp : ∀ ch a' w', kp ch w' → a'.defers = a.defers → Q (.panic ch) a' w') (hL : ∀ d ∈ dsts ops, d < a.tmps.size)
    (h : vcDraw P plan id ops e w kn kp) (hf : e.fits a.tmps) : (Code.region id ops.toArray true).wpIn (FW ro) 0 P Q a w := by
  unfold vcDraw at h
  split at h
  · exact vcDrawT_sound hm hQn hQp hL h hf
  · split at h
    · exact vcSeqT_sound hm hQn hQp hL h hf
    · split at h
      · exact vcSeqO_sound hm hQn hQp hL h hf
      · split at h
        · exact vcFltT_sound hm hQn hQp hL h hf
        · exact vcDrawT_sound hm hQn hQp hL h hf
  · exact vcDrawT_sound hm hQn hQp hL h hf

/-! ### Code -/
def QOf (l : List Nat) (pl : Bool) (ds : List Deferred) (a0 : Act) (kn : List Deferred → Env → World → Prop) (kx : Nat → List Deferred → Env → World → Prop) (kr : List Deferred → Env → World → Prop) (kp : List PanicEntry → World → Prop) : Exit → Act → World → Prop
  | .normal, a, w => ∃ e, e.fits a.tmps ∧ SameOff l a0.tmps a.tmps ∧ (pl = true → a.defers = ds) ∧ kn a.defers e w
  | .exit id, a, w => ∃ e, e.fits a.tmps ∧ SameOff l a0.tmps a.tmps ∧ (pl = true → a.defers = ds) ∧ kx id a.defers e w
  | .ret, a, w => ∃ e, e.fits a.tmps ∧ SameOff l a0.tmps a.tmps ∧ (pl = true → a.defers = ds) ∧ kr a.defers e w
  | .panic ch, a, w => a.defers = [] ∧ kp ch w
  | _, _, _ => False
theorem kpD_out {kp : List PanicEntry → World → Prop} {ds : List Deferred} {ch : List PanicEntry} {w : World} (h : kpD kp ds ch w) : ds = [] ∧ kp ch w := by
  cases ds with
  | nil => exact ⟨rfl, h⟩
  | cons d r => exact h.elim
section scope
variable {P : Program} {b : Frame} {a : Act} {k : List Item} {cs : List Frame} {w : World} {Q : Exit → Act → World → Prop}
theorem stepR_scope {c : Code} : step P (lone (b.atR a (.code (.scope c) :: k)) cs w) = .next (lone (b.atR a (.code c :: .inScope c :: k)) cs w) :=
  step_lone_go (by simp [stepG, stepG.exec, Frame.atR])
theorem stepR_inScope {c : Code} : step P (lone (b.atR a (.inScope c :: k)) cs w) = .next (lone (b.atR a k) cs w) :=
  step_lone_go (by simp [stepG, stepG.exec, Frame.atR])
theorem wpIn_scope_straight {F : Fence} {n : Nat} {c : Code} (h : c.wpIn F n P (Exit.noGoto Q) a w) : (Code.scope c).wpIn F n P Q a w := by
  intro b k cs hro hb hr
  have h0 : (lone (b.atR a (.code (.scope c) :: k)) cs w).fenced P F := fenced_calm hb hr rfl
  obtain ⟨e, a₁, w₁, hq, harr⟩ := h b (.inScope c :: k) cs hro hb hr
  cases e with
  | normal => exact ⟨.normal, a₁, w₁, hq, .head h0 stepR_scope (StepsIn.trans harr (.one (fenced_calm hb hr rfl) stepR_inScope))⟩
  | exit id =>
    have hx : exitTo id (.inScope c :: k) = exitTo id k := by simp [exitTo]
    exact ⟨.exit id, a₁, w₁, hq, fun k' hk => .head h0 stepR_scope (harr.1 k' (by rw [hx]; exact hk)),
      fun hr' hk => let ⟨k₁, h1, h2⟩ := harr.2 hr' (by rw [hx]; exact hk); ⟨k₁, h1, .head h0 stepR_scope h2⟩⟩
  | goto l => exact hq.elim
  | ret => exact ⟨_, a₁, w₁, hq, .of_steps (.one h0 stepR_scope) harr⟩
  | panic ch => exact ⟨_, a₁, w₁, hq, .of_steps (.one h0 stepR_scope) harr⟩
  | outgrown => exact ⟨_, a₁, w₁, hq, .of_steps (.one h0 stepR_scope) harr⟩
end scope
theorem asAll_out {P : Program} {ty : Nat → Option TypeId} {k : Env → Prop} {a : Array Value} : ∀ (L : List Nat) (i : Nat) (s : List Value) (acc : Env), acc.fits a → (∀ j n, L[j]? = some n → a[n]? = some (s.getD (i + j) undef)) → asAll P ty k L i s acc →
    ∃ e, e.fits a ∧ k e
  | [], i, s, acc, hf, _, h => ⟨acc, hf, h⟩
  | n :: r, i, s, acc, hf, hL, h => by
    have h0 : a[n]? = some (s.getD i undef) := by simpa using hL 0 n rfl
    have hf' : Env.fits ((n, s.getD i undef) :: acc) a := by
      intro x v hx
      rw [get_cons] at hx
      split at hx
      · rename_i he; subst he; cases hx; exact h0
      · exact hf x v hx
    have hL' : ∀ j m, r[j]? = some m → a[m]? = some (s.getD (i + 1 + j) undef) := fun j m hj => by
      have := hL (j + 1) m (by simpa using hj)
      rwa [show i + 1 + j = i + (j + 1) by omega]
    simp only [asAll] at h
    split at h
    · exact asAll_out r (i + 1) s _ hf' hL' h.out
    · exact asAll_out r (i + 1) s _ hf' hL' h
theorem getAll_fits {e : Env} {a : Array Value} (hf : e.fits a) : ∀ (L : List Nat) (s : List Value), getAll e L = some s → s.length = L.length ∧ ∀ (j : Nat) (n : Nat), L[j]? = some n → a[n]? = some (s.getD j undef)
  | [], s, h => by simp [getAll] at h; subst h; exact ⟨rfl, fun j n hj => by simp at hj⟩
  | n :: r, s, h => by
    simp only [getAll] at h
    split at h
    · rename_i v hv
      split at h
      · rename_i l hl
        cases h
        obtain ⟨h1, h2⟩ := getAll_fits hf r l hl
        refine ⟨by simp [h1], fun j m hj => ?_⟩
        cases j with
        | zero => simp at hj; subst hj; simpa using hf n v hv
        | succ j => simp at hj; simpa using h2 j m hj
      · cases h
    · cases h
theorem fits_append {e f : Env} {a : Array Value} (he : e.fits a) (hf : f.fits a) : Env.fits (e ++ f) a := by
  intro n v hn
  rw [get_append] at hn
  split at hn
  · rename_i u hu; cases hn; exact he n v hu
  · exact hf n v hn
def okCode (N : Nat) (c : Code) : Bool := dstBelow N (written c)
theorem dstBelow_spec {N : Nat} : ∀ {l : List Nat}, dstBelow N l = true → ∀ d ∈ l, d < N
  | [], _, d, hd => by cases hd
  | x :: r, h, d, hd => by
    simp only [dstBelow] at h
    split at h
    · rename_i hb
      cases hd with
      | head => simpa [Nat.blt_eq] using hb
      | tail _ hd => exact dstBelow_spec h d hd
    · cases h
theorem puts_list : ∀ (l : List (Nat × Value)) (t : Array Value), (l.map (·.1)).Nodup → (∀ p ∈ l, p.1 < t.size) →
    (l.foldl (fun (tmps : Array Value) (x : Nat × Value) => tmps.setIfInBounds x.1 x.2) t).size = t.size ∧
    (∀ p ∈ l, (l.foldl (fun (tmps : Array Value) (x : Nat × Value) => tmps.setIfInBounds x.1 x.2) t)[p.1]? = some p.2) ∧
    ∀ n, n ∉ l.map (·.1) → (l.foldl (fun (tmps : Array Value) (x : Nat × Value) => tmps.setIfInBounds x.1 x.2) t)[n]? = t[n]?
  | [], t, _, _ => ⟨rfl, (fun p hp => nomatch hp), (fun n _ => rfl)⟩
  | q :: r, t, hnd, hlt => by
    simp only [List.map_cons, List.nodup_cons] at hnd
    obtain ⟨h1, h2, h3⟩ := puts_list r (t.setIfInBounds q.1 q.2) hnd.2 (fun p hp => by simpa using hlt p (by simp [hp]))
    simp only [List.foldl_cons]
    refine ⟨by rw [h1]; simp, fun p hp => ?_, fun n hn => ?_⟩
    · cases hp with
      | head => rw [h3 _ hnd.1]; exact Array.getElem?_setIfInBounds_self_of_lt (hlt _ (by simp))
      | tail _ hp => exact h2 p hp
    · simp only [List.map_cons, List.mem_cons, not_or] at hn
      rw [h3 n hn.2]
      exact Array.getElem?_setIfInBounds_ne (Ne.symm hn.1)
theorem zip_fst : ∀ (l : List Nat) (s : List Value), l.length = s.length → (l.zip s).map (·.1) = l
  | [], _, _ => rfl
  | x :: l, [], h => by simp at h
  | x :: l, y :: s, h => by simp [zip_fst l s (by simpa using h)]
theorem puts_fits {ps : Array Nat} {args tmps : Array Value} (hs : args.size = ps.size) (hnd : ps.toList.Nodup) (hlt : ∀ p ∈ ps.toList, p < tmps.size) :
    ((ps.zip args).foldl (fun tmps (t, a) => tmps.setIfInBounds t a) tmps).size = tmps.size ∧
    (∀ j n, ps.toList[j]? = some n → ((ps.zip args).foldl (fun tmps (t, a) => tmps.setIfInBounds t a) tmps)[n]? = some (args.toList.getD (0 + j) undef)) ∧
    ∀ n, n ∉ ps.toList → ((ps.zip args).foldl (fun tmps (t, a) => tmps.setIfInBounds t a) tmps)[n]? = tmps[n]? := by
  have e : ((ps.zip args).foldl (fun (tmps : Array Value) (x : Nat × Value) => match x with | (t, a) => tmps.setIfInBounds t a) tmps) = ((ps.toList.zip args.toList).foldl (fun (tmps : Array Value) (x : Nat × Value) => tmps.setIfInBounds x.1 x.2) tmps) := by
    rw [← Array.foldl_toList, Array.toList_zip]
  have hz : (ps.toList.zip args.toList).map (·.1) = ps.toList := zip_fst _ _ (by simp [hs])
  obtain ⟨h1, h2, h3⟩ := puts_list (ps.toList.zip args.toList) tmps (by rw [hz]; exact hnd) (fun p hp => hlt _ (List.of_mem_zip hp).1)
  rw [hz] at h3
  refine ⟨by rw [← h1]; exact congrArg Array.size e, fun j n hj => ?_, fun n hn => by rw [← h3 n hn]; exact congrArg (·[n]?) e⟩
  have hjl : j < args.toList.length := by
    have := (List.getElem?_eq_some_iff.1 hj).1
    simp at this ⊢; omega
  have hp : (n, args.toList[j]) ∈ ps.toList.zip args.toList := by
    refine List.mem_of_getElem? (i := j) ?_
    rw [List.getElem?_zip_eq_some]
    exact ⟨hj, List.getElem?_eq_getElem hjl⟩
  have := h2 _ hp
  rw [Nat.zero_add, List.getD_eq_getElem?_getD, List.getElem?_eq_getElem hjl]
  exact (congrArg (·[n]?) e).trans this
theorem leapR_out {p : Option Code} : ∀ {l : List (Nat × Prop)}, leapR p l → ∃ i k, (i, k) ∈ l ∧ p = some (.exit i) ∧ k
  | [], h => h.elim
  | (i, k) :: r, h => by
    rcases h with ⟨h1, h2⟩ | h
    · exact ⟨i, k, by simp, h1, h2⟩
    · obtain ⟨j, k', h1, h2⟩ := leapR_out h
      exact ⟨j, k', by simp [h1], h2⟩
theorem range_sound {P : Program} {plan : Plan} {N : Nat} {g : Operand} {ps : Array Tmp} {x y : Code}
    {kn : List Deferred → Env → World → Prop} {kx : Nat → List Deferred → Env → World → Prop} {kr : List Deferred → Env → World → Prop} {kp : List PanicEntry → World → Prop} {e : Env} {a : Act} {w : World}
    (ihx : ∀ (ro : Nat) (kn : List Deferred → Env → World → Prop) (kx : Nat → List Deferred → Env → World → Prop) (kr : List Deferred → Env → World → Prop) (kp : List PanicEntry → World → Prop) (e : Env) (a : Act) (w : World),
      (some ro = none ∨ plainC x = true) → (∀ d ∈ written x, d < N) → a.tmps.size = N → e.fits a.tmps → vc P plan x kn kx kr kp a.defers e w → x.wpIn (FW (some ro)) 0 P (QOf (written x) (plainC x) a.defers a kn kx kr kp) a w)
    (ihy : ∀ (ro : Nat) (kn : List Deferred → Env → World → Prop) (kx : Nat → List Deferred → Env → World → Prop) (kr : List Deferred → Env → World → Prop) (kp : List PanicEntry → World → Prop) (e : Env) (a : Act) (w : World),
      (some ro = none ∨ plainC y = true) → (∀ d ∈ written y, d < N) → a.tmps.size = N → e.fits a.tmps → vc P plan y kn kx kr kp a.defers e w → y.wpIn (FW (some ro)) 0 P (QOf (written y) (plainC y) a.defers a kn kx kr kp) a w)
    (hN : ∀ d ∈ written (.rangeFunc g ps x y), d < N) (hs : a.tmps.size = N) (hf : e.fits a.tmps) (h : vc P plan (.rangeFunc g ps x y) kn kx kr kp a.defers e w) :
    (Code.rangeFunc g ps x y).wpIn (FW none) 0 P (QOf (written (.rangeFunc g ps x y)) (plainC (.rangeFunc g ps x y)) a.defers a kn kx kr kp) a w := by
  simp only [vc] at h
  split at h
  · exact h.elim
  rename_i hpl
  simp only [Bool.and_eq_true] at hpl
  obtain ⟨⟨hpx, hpy⟩, hnd⟩ := hpl
  have hnd' := nodupB_spec _ hnd
  split at h
  · exact h.elim
  rename_i gv hgv
  simp only [written, List.mem_append] at hN
  have hev : a.eval g = gv := by
    cases g with
    | tmp n => have := hf n _ hgv; simp [Act.eval, this]
    | const v => simp [ev] at hgv; simp [Act.eval, hgv]
    | global g => simp [ev] at hgv; simp [Act.eval, hgv]
    | func f => simp [ev] at hgv; simp [Act.eval, hgv]
  obtain ⟨f, lb, rb, rfl, hcall, hR⟩ := h
  refine wpIn_rangeFunc fun fn _ => ?_
  have h3 := hR (fun s p => .loop { state := s, pending := p, fn, tmps := a.tmps, params := ps, assign := x, body := y, defers := w.heap.size }) (fun s p => ⟨_, rfl⟩) ?_
  · refine ⟨w.heap.size + 1, [{ target := .collected w.heap.size, args := #[] }], ((w.alloc (.deferred (some []))).alloc (.loop { state := .ready, pending := none, fn, tmps := a.tmps, params := ps, assign := x, body := y, defers := w.heap.size })), { target := .fn (.func f) rb, args := lb ++ #[Value.func (.yield (w.heap.size + 1)) #[] #[]] }, ((w.alloc (.deferred (some []))).alloc (.loop { state := .ready, pending := none, fn, tmps := a.tmps, params := ps, assign := x, body := y, defers := w.heap.size })), f, lb ++ #[Value.func (.yield (w.heap.size + 1)) #[] #[]] ++ rb, ((w.alloc (.deferred (some []))).alloc (.loop { state := .ready, pending := none, fn, tmps := a.tmps, params := ps, assign := x, body := y, defers := w.heap.size })), run_enterLoop_outer fn a.tmps ps x y, ?_, fun _ _ => trivial, (show (callFunc f (lb ++ #[Value.func (.yield (w.heap.size + 1)) #[] #[]] ++ rb)).run P _ = _ from run_callFunc hcall _ _), (fun h => by cases h), ?_⟩
    · simp only [resolve, hev, Deferred.ofValue]
      simp [Act.eval]
    · refine CallsIn.mono (calls_FW (ro := none) h3) ?_
      rintro en W' ⟨v, rfl, s, p, hne, hrec, hk⟩
      refine ⟨p, _, run_endLoop hrec hne, ?_⟩
      rcases hk with ⟨rfl, hk⟩ | ⟨rfl, hk⟩ | hk
      · exact ⟨e, hf, SameOff.refl _ _, (fun h => by cases h), hk⟩
      · exact wpIn_ret ⟨e, hf, SameOff.refl _ _, (fun h => by cases h), hk⟩
      · obtain ⟨i, k, hm, rfl, hk⟩ := leapR_out hk
        simp only [List.map_map, List.mem_map, Function.comp] at hm
        obtain ⟨i', _, he⟩ := hm
        cases he
        exact wpIn_exit ⟨e, hf, SameOff.refl _ _, (fun h => by cases h), hk⟩
  · intro args W k hsz hrec hround
    have hrun : (callSem (.func (.yield (w.heap.size + 1)) #[] #[]) args).run P W = (Instr.yield (w.heap.size + 1) args).run P W := by
      simp [callSem, Deferred.ofValue, invoke]
    rw [Yield_iff]; unfold YieldR
    rw [hrun, run_yield hrec hsz]
    simp only
    obtain ⟨hq1, hq2, hq3⟩ := puts_fits (tmps := a.tmps) hsz hnd' (fun p hp => by rw [hs]; exact hN p (.inl (.inl hp)))
    generalize ((ps.zip args).foldl (fun tmps (t, a) => tmps.setIfInBounds t a) a.tmps) = tm at *
    obtain ⟨acc, hfa, hvc⟩ := asAll_out ps.toList 0 args.toList [] (fun n v hn => by cases hn) hq2 hround
    have hfb : (e.drop ps.toList).fits tm := by
      intro n v hn
      rw [get_drop] at hn
      split at hn
      · cases hn
      · rename_i hmb
        rw [hq3 n (by rw [← memB_false]; simpa using hmb)]
        exact hf n v hn
    refine roundIn_of_wpIn (F := Fence.wide) trivial ?_
    refine wpIn_mono (F := FW (some (w.heap.size + 1))) (ihx (w.heap.size + 1) _ _ _ _ _ { tmps := tm, defers := [] } W (.inr hpx) (fun d hd => hN d (.inl (.inr hd))) (by simp only; rw [hq1, hs]) (fits_append hfa hfb) hvc) fun ex a1 w1 hq => ?_
    cases ex with
    | normal =>
      obtain ⟨e1, hf1, hso1, hd1, hr1, hvc1⟩ := hq
      refine ⟨_, run_beginRound hr1 rfl, ?_⟩
      have hd1' := hd1 hpx
      simp only at hd1'
      refine wpIn_mono (F := FW (some (w.heap.size + 1))) (ihy (w.heap.size + 1) _ _ _ _ _ a1 _ (.inr hpy) (fun d hd => hN d (.inr hd)) (by rw [hso1.1]; simp only; rw [hq1, hs]) hf1 (by rw [hd1']; exact hvc1)) fun ex2 a2 w2 hq2 => ?_
      cases ex2 with
      | normal => obtain ⟨e2, hf2, hso2, hd2, hr2, hk2⟩ := hq2; exact ⟨_, _, run_endRound none hr2, hk2⟩
      | ret => obtain ⟨e2, hf2, hso2, hd2, hr2, hk2⟩ := hq2; exact ⟨_, _, run_endRound (some .ret) hr2, hk2⟩
      | exit i => obtain ⟨e2, hf2, hso2, hd2, hr2, hk2⟩ := hq2; exact ⟨_, _, run_endRound (some (.exit i)) hr2, hk2⟩
      | goto l => exact hq2.elim
      | panic ch => exact hq2.2.elim
      | outgrown => exact hq2.elim
    | exit i => obtain ⟨e2, hf2, hso2, hd2, hk2⟩ := hq; exact hk2.elim
    | ret => obtain ⟨e2, hf2, hso2, hd2, hk2⟩ := hq; exact hk2.elim
    | goto l => exact hq.elim
    | panic ch => exact hq.2.elim
    | outgrown => exact hq.elim
theorem sel_head {ro : Option Nat} {P : Program} {ops : Array Oper} {rest : List Nat} {o : Oper} {e : Env} {a : Act} {w : World} {K : Value → World → Prop} (ho : ops[0]? = some o) (hg : o.guard = none) (h : vSel P e o w K) (hf : e.fits a.tmps) :
    ∃ v w', K v w' ∧ ∀ (b : Frame) (k : List Item) (cs : List Frame), b.roundOf = ro → step P (lone (b.atR a (.inRegion ops (0 :: rest) :: k)) cs w) = .next (lone (b.atR (a.put o.dst v) (.inRegion ops rest :: k)) cs w') := by
  have hfin : ∀ (b : Frame) (k : List Item) v, (b.atR a (.inRegion ops (0 :: rest) :: k)).finish v = b.atR (a.put o.dst v) (.inRegion ops rest :: k) := by
    intro b k v; rw [Frame.finish_atR, ho]; rfl
  have hw : Region.wanted o (yielded ops a.tmps) = true := by simp only [Region.wanted, hg]
  obtain ⟨dst, op, type, pos, after, guard⟩ := o
  dsimp only at hg hfin
  subst hg
  unfold vSel at h
  dsimp only at h
  split at h
  · rename_i cases
    split at h
    · rename_i c hc hkn
      obtain ⟨cs0⟩ := cases
      dsimp only at hc
      subst hc
      have hag := rho_agree hf _ hkn
      have hch : rho e c.chan = a.eval c.chan := hag c.chan (by simp [Op.operands])
      split at h
      · rename_i q z hq hz
        obtain ⟨cap, buf, s, r, hb, h⟩ := h
        have hrun : ∀ ro', (({ dst, op := .select #[c] false, type, pos, after, guard := none } : Oper).semAt ro' a.eval).run P w = .ok (.comm #[{ chan := .chan (some q), send := c.send.map a.eval, zero := z }] false .select) w := fun ro' => by
          have e1 : ({ dst, op := .select #[c] false, type, pos, after, guard := none } : Oper).semAt ro' a.eval = execOp a.eval { dst, op := .select #[c] false, type, pos, after, guard := none } := by
            cases ro' <;> first | exact Oper.semAt_none _ _ | exact Oper.semAt_some _ _ _ (fun _ h => by cases h)
          rw [e1]
          have hz' := run_zero hz w
          rw [hch] at hq
          simp only [execOp, Sem.run_bind]
          have hm := run_mapM (P := P) (fun s : SelectCase => (do pure { chan := a.eval s.chan, send := s.send.map a.eval, zero := ← zeroValue s.elem : CommCase } : Sem CommCase)) (fun _ => { chan := .chan (some q), send := c.send.map a.eval, zero := z }) w #[c] (fun x hx => by
            have : x = c := by simpa using hx
            subst this
            simp [hz', hq])
          rw [hm]
          simp
        have hgo : ∀ (b : Frame) (k : List Item) (cs : List Frame), ∃ es, stepG P true (Conc.G (b.atR a (.inRegion ops (0 :: rest) :: k)) cs) w = .comm (Conc.G (b.atR a (.inRegion ops (0 :: rest) :: k)) cs) #[{ chan := .chan (some q), send := c.send.map a.eval, zero := z }] false .select w es := fun b k cs => by
          have hg := stepGR_op (P := P) (b := b) (k := k) (cs := cs) (w := w) (rest := rest) ho hw
          unfold Conc.G
          rw [hg]
          simp only [stepG.apply, Sem.runT_eq, hrun, if_true]
          exact ⟨_, rfl⟩
        cases hsd : c.send with
        | some x =>
          rw [hsd] at h hgo
          dsimp only at h
          obtain ⟨hroom, h⟩ := h
          have hx : rho e x = a.eval x := hag x (by simp [Op.operands, hsd])
          rw [hx] at h
          refine ⟨_, _, h, fun b k cs _ => ?_⟩
          obtain ⟨es, hes⟩ := hgo b k cs
          rw [step_sel_send hes rfl rfl hb hroom, hfin]; rfl
        | none =>
          rw [hsd] at h hgo
          dsimp only at h
          rcases h with ⟨hsome, h⟩ | ⟨rfl, h⟩
          · refine ⟨_, _, h, fun b k cs _ => ?_⟩
            obtain ⟨es, hes⟩ := hgo b k cs
            rw [step_sel_recv hes rfl rfl hb hsome, hfin]; rfl
          · refine ⟨_, _, h, fun b k cs _ => ?_⟩
            obtain ⟨es, hes⟩ := hgo b k cs
            rw [step_sel_none hes rfl rfl hb, hfin]
      · exact h.elim
    · exact h.elim
  · exact h.elim
theorem vc_sound {P : Program} {plan : Plan} (hm : P.follows .mixedOrders = true) {N : Nat} : ∀ (c : Code) (ro : Option Nat) (kn : List Deferred → Env → World → Prop) (kx : Nat → List Deferred → Env → World → Prop) (kr : List Deferred → Env → World → Prop) (kp : List PanicEntry → World → Prop) (e : Env) (a : Act) (w : World),
    (ro = none ∨ plainC c = true) → (∀ d ∈ written c, d < N) → a.tmps.size = N → e.fits a.tmps → vc P plan c kn kx kr kp a.defers e w → c.wpIn (FW ro) 0 P (QOf (written c) (plainC c) a.defers a kn kx kr kp) a w := by
  intro c
  induction c with
  | skip =>
    intro ro kn kx kr kp e a w hro hN hs hf h
    exact wpIn_skip ⟨e, hf, SameOff.refl _ _, fun _ => rfl, h⟩
  | region id ops draw =>
    intro ro kn kx kr kp e a w hro hN hs hf h
    cases draw with
    | false =>
      simp only [vc] at h
      unfold vcHd at h
      split at h
      · rename_i he
        have e1 : ops = #[] := Array.toList_inj.1 (by rw [he])
        subst e1
        exact wpIn_region_list ⟨e, hf, SameOff.refl _ _, fun _ => rfl, h⟩
      rename_i o r he
      split at h
      · rename_i hsel hgd
        obtain ⟨v, w', hk, hstep⟩ := sel_head (ro := ro) (ops := ops) (rest := List.range' 1 r.length) (by rw [← Array.getElem?_toList, he]; rfl) hgd h hf
        have hin : ∀ d, o.dst = some d → d ∈ dsts ops.toList := fun d hd => mem_dsts hd (by rw [he]; exact List.mem_cons_self)
        have hsz : ∀ d, o.dst = some d → d < a.tmps.size := fun d hd => by rw [hs]; exact hN d (hin d hd)
        have := vcOps_sound (ro := ro) (Q := QOf (dsts ops.toList) true a.defers a kn kx kr kp) (a0 := a) (L := dsts ops.toList) (fun e' a' w' hk hf' hso hd => ⟨e', hf', hso, fun _ => hd, by rw [hd]; exact hk⟩) (fun ch a' w' hk hd => ⟨hd.trans (kpD_out hk).1, (kpD_out hk).2⟩)
          (fun d hd => by rw [hs]; exact hN d hd) r (e.put o.dst v) (a.put o.dst v) w' (fun d hd => by rw [he]; simp only [dsts]; split <;> simp [hd]) hk (fits_act hf v hsz) ((SameOff.refl _ _).trans (SameOff.put a v hin)) (by rw [put_defers])
        have hq : QOf (written (.region id ops false)) (plainC (.region id ops false)) a.defers a kn kx kr kp = QOf (dsts ops.toList) true a.defers a kn kx kr kp := rfl
        rw [hq]
        rw [Array.toArray_toList, ← wpOpsIn_eq_wpListIn (ops := ops) r 1 (fun j => by rw [← Array.getElem?_toList, he, Nat.add_comm, List.getElem?_cons_succ])] at this
        intro b k cs hro' hb hr
        obtain ⟨x, a', w3, hq3, harr⟩ := wp_opsIn _ _ _ this b k cs hro' hb hr
        have hsize : List.range ops.size = 0 :: List.range' 1 r.length := by
          have : ops.size = r.length + 1 := by rw [← Array.length_toList, he]; rfl
          rw [this, List.range_eq_range', List.range'_succ]
        refine ⟨x, a', w3, hq3, .of_steps (.head (fenced_calm hb hr rfl) stepR_region ?_) harr⟩
        rw [hsize]
        exact .one (fun g hg => by
          refine ⟨fun h => by simp [FW] at h, Or.inl trivial, fun _ _ => trivial, fun _ h => by simp [FW] at h⟩) (hstep b k cs hro')
      refine wpIn_region_list ?_
      have := vcOps_sound (ro := ro) (Q := QOf (dsts ops.toList) true a.defers a kn kx kr kp) (a0 := a) (L := dsts ops.toList) (fun e' a' w' hk hf' hso hd => ⟨e', hf', hso, fun _ => hd, by rw [hd]; exact hk⟩) (fun ch a' w' hk hd => ⟨hd.trans (kpD_out hk).1, (kpD_out hk).2⟩)
        (fun d hd => by rw [hs]; exact hN d hd) ops.toList e a w (fun d hd => hd) h hf (SameOff.refl _ _) rfl
      simpa [written, plainC] using this
    | true =>
      simp only [vc] at h
      have := vcDraw_sound (ro := ro) (id := id) (Q := QOf (dsts ops.toList) true a.defers a kn kx kr kp) hm (fun e' a' w' hk hf' hso hd => ⟨e', hf', hso, fun _ => hd, by rw [hd]; exact hk⟩) (fun ch a' w' hk hd => ⟨hd.trans (kpD_out hk).1, (kpD_out hk).2⟩)
        (fun d hd => by rw [hs]; exact hN d hd) h hf
      simpa [written, plainC] using this
  | seq x y ihx ihy =>
    intro ro kn kx kr kp e a w hro hN hs hf h
    simp only [vc] at h
    simp only [written] at hN ⊢
    have hpx : ∀ {b : Bool}, (match plainC x with | true => plainC y | false => false) = true → plainC x = true ∧ plainC y = true := fun h => by cases hx : plainC x <;> rw [hx] at h <;> simp_all
    have hpl : ro = none ∨ (plainC x = true ∧ plainC y = true) := hro.imp id (fun h => hpx (b := true) h)
    refine wpIn_seq (wpIn_mono (ihx ro _ _ _ _ e a w (hpl.imp id And.left) (fun d hd => hN d (by simp [hd])) hs hf h) fun ex a' w' hq => ?_)
    have hl : ∀ n ∈ written x, n ∈ written x ++ written y := fun n hn => by simp [hn]
    have hr : ∀ n ∈ written y, n ∈ written x ++ written y := fun n hn => by simp [hn]
    cases ex with
    | normal =>
      obtain ⟨e', hf', hso, hd, hk⟩ := hq
      refine wpIn_mono (ihy ro _ _ _ _ e' a' w' (hpl.imp id And.right) (fun d hd => hN d (by simp [hd])) (by rw [hso.1, hs]) hf' hk) fun ex2 a2 w2 hq2 => ?_
      cases ex2 with
      | normal => obtain ⟨e2, hf2, hso2, hd2, hk2⟩ := hq2; exact ⟨e2, hf2, (hso.mono hl).trans (hso2.mono hr), fun h => (hd2 (hpx (b := true) h).2).trans (hd (hpx (b := true) h).1), hk2⟩
      | exit i => obtain ⟨e2, hf2, hso2, hd2, hk2⟩ := hq2; exact ⟨e2, hf2, (hso.mono hl).trans (hso2.mono hr), fun h => (hd2 (hpx (b := true) h).2).trans (hd (hpx (b := true) h).1), hk2⟩
      | ret => obtain ⟨e2, hf2, hso2, hd2, hk2⟩ := hq2; exact ⟨e2, hf2, (hso.mono hl).trans (hso2.mono hr), fun h => (hd2 (hpx (b := true) h).2).trans (hd (hpx (b := true) h).1), hk2⟩
      | panic ch => exact hq2
      | goto l => exact hq2
      | outgrown => exact hq2
    | exit i => obtain ⟨e2, hf2, hso2, hd2, hk2⟩ := hq; exact ⟨e2, hf2, hso2.mono hl, fun h => hd2 (hpx (b := true) h).1, hk2⟩
    | ret => obtain ⟨e2, hf2, hso2, hd2, hk2⟩ := hq; exact ⟨e2, hf2, hso2.mono hl, fun h => hd2 (hpx (b := true) h).1, hk2⟩
    | panic ch => exact hq
    | goto l => exact hq
    | outgrown => exact hq
  | cond c x y ihx ihy =>
    intro ro kn kx kr kp e a w hro hN hs hf h
    simp only [vc] at h
    simp only [written] at hN ⊢
    have hl : ∀ n ∈ written x, n ∈ written x ++ written y := fun n hn => by simp [hn]
    have hr : ∀ n ∈ written y, n ∈ written x ++ written y := fun n hn => by simp [hn]
    split at h
    · rename_i t ht
      have hev : a.eval c = .bool t := by
        cases c with
        | tmp n => have := hf n _ ht; simp [Act.eval, this]
        | const v => simp [ev] at ht; simp [Act.eval, ht]
        | global g => simp [ev] at ht
        | func f => simp [ev] at ht
      have hpx : (match plainC x with | true => plainC y | false => false) = true → plainC x = true ∧ plainC y = true := fun h => by cases hx : plainC x <;> rw [hx] at h <;> simp_all
      have hpl : ro = none ∨ (plainC x = true ∧ plainC y = true) := hro.imp id (fun h => hpx h)
      have up : ∀ {l : List Nat} {pb : Bool}, (∀ n ∈ l, n ∈ written x ++ written y) → (plainC (.cond c x y) = true → pb = true) → ∀ ex a' w', QOf l pb a.defers a kn kx kr kp ex a' w' → QOf (written x ++ written y) (plainC (.cond c x y)) a.defers a kn kx kr kp ex a' w' := by
        intro l pb hl hpb ex a' w' hq
        cases ex with
        | normal => obtain ⟨e2, hf2, hso2, hd2, hk2⟩ := hq; exact ⟨e2, hf2, hso2.mono hl, fun h => hd2 (hpb h), hk2⟩
        | exit i => obtain ⟨e2, hf2, hso2, hd2, hk2⟩ := hq; exact ⟨e2, hf2, hso2.mono hl, fun h => hd2 (hpb h), hk2⟩
        | ret => obtain ⟨e2, hf2, hso2, hd2, hk2⟩ := hq; exact ⟨e2, hf2, hso2.mono hl, fun h => hd2 (hpb h), hk2⟩
        | panic ch => exact hq
        | goto l => exact hq
        | outgrown => exact hq
      cases t with
      | true => exact wpIn_cond_true hev (wpIn_mono (ihx ro _ _ _ _ e a w (hpl.imp id And.left) (fun d hd => hN d (by simp [hd])) hs hf h) (up hl fun h => (hpx h).1))
      | false => exact wpIn_cond_false hev (wpIn_mono (ihy ro _ _ _ _ e a w (hpl.imp id And.right) (fun d hd => hN d (by simp [hd])) hs hf h) (up hr fun h => (hpx h).2))
    · exact h.elim
  | block id c ih =>
    intro ro kn kx kr kp e a w hro hN hs hf h
    simp only [vc] at h
    simp only [written] at hN ⊢
    refine wpIn_block (wpIn_mono (ih ro _ _ _ _ e a w hro hN hs hf h) fun ex a' w' hq => ?_)
    cases ex with
    | normal => exact hq
    | exit i =>
      obtain ⟨e2, hf2, hso2, hd2, hk2⟩ := hq
      simp only [Exit.inBlock]
      by_cases hi : i = id
      · subst hi
        rw [if_pos rfl]
        rw [Nat.beq_refl] at hk2
        exact ⟨e2, hf2, hso2, hd2, hk2⟩
      · rw [if_neg hi]
        have : Nat.beq i id = false := by
          cases hb : Nat.beq i id with
          | false => rfl
          | true => exact absurd (Nat.eq_of_beq_eq_true hb) hi
        rw [this] at hk2
        exact ⟨e2, hf2, hso2, hd2, hk2⟩
    | ret => exact hq
    | panic ch => exact hq
    | goto l => exact hq
    | outgrown => exact hq
  | loop c ih =>
    intro ro kn kx kr kp e a w hro hN hs hf h
    simp only [vc] at h
    simp only [written] at hN ⊢
    split at h
    · exact h.elim
    rename_i hpc
    split at h
    · rename_i s0 hs0
      obtain ⟨I, μ, hI0, hround⟩ := h
      obtain ⟨hlen0, hget0⟩ := getAll_fits hf _ _ hs0
      generalize hLdef : live e (written c) = L at *
      let getS : Act → List Value := fun a => L.map fun n => a.tmps.getD n undef
      have getS_of : ∀ (a' : Act) (s : List Value), s.length = L.length → (∀ (j n : Nat), L[j]? = some n → a'.tmps[n]? = some (s.getD j undef)) → s = getS a' := by
        intro a' s hl hg
        apply List.ext_getElem?
        intro j
        rcases Nat.lt_or_ge j L.length with hj | hj
        · have h1 := hg j L[j] (List.getElem?_eq_getElem hj)
          have hj' : j < s.length := by omega
          simp only [getS, List.getElem?_map, List.getElem?_eq_getElem hj, List.getElem?_eq_getElem hj', Option.map_some]
          simp [hj'] at h1
          simp [h1]
        · rw [List.getElem?_eq_none (by omega), List.getElem?_eq_none (by simp [getS]; omega)]
      refine wpIn_loop (fun a' w' => I (getS a') w' ∧ (∀ n ∈ L, n < a'.tmps.size) ∧ SameOff (written c) a.tmps a'.tmps ∧ a'.defers = a.defers) (fun a' w' => μ (getS a') w') ?_ ?_
      · refine ⟨by rw [← getS_of a s0 hlen0 hget0]; exact hI0, fun n hn => ?_, SameOff.refl _ _, rfl⟩
        obtain ⟨j, hj⟩ := List.getElem?_of_mem hn
        have := hget0 j n hj
        exact (Array.getElem?_eq_some_iff.1 this).1
      · rintro a' w' ⟨hI, hLs, hso, hd⟩
        have hb := hround _ _ hI
        have hgetS : ∀ j n, L[j]? = some n → a'.tmps[n]? = some ((getS a').getD (0 + j) undef) := by
          intro j n hj
          have hn := hLs n (List.mem_of_getElem? hj)
          simp [getS, hj, hn]
        obtain ⟨acc, hfa, hvc⟩ := asAll_out L 0 (getS a') [] (fun n v hn => by cases hn) hgetS hb
        have hfb : (e.drop (written c)).fits a'.tmps := by
          intro n v hn
          rw [get_drop] at hn
          split at hn
          · cases hn
          · rename_i hmb
            rw [hso.2 n (by simpa using hmb)]
            exact hf n v hn
        rw [← hd] at hvc
        refine wpIn_mono (ih ro _ _ _ _ _ a' w' (.inr hpc) hN (by rw [hso.1, hs]) (fits_append hfa hfb) hvc) fun ex a2 w2 hq => ?_
        cases ex with
        | normal =>
          obtain ⟨e2, hf2, hso2, hd2, hk2⟩ := hq
          split at hk2
          · rename_i s' hs'
            obtain ⟨hlen, hget⟩ := getAll_fits hf2 _ _ hs'
            have hse := getS_of a2 s' hlen hget
            refine ⟨⟨by rw [← hse]; exact hk2.1, fun n hn => ?_, hso.trans hso2, (hd2 hpc).trans hd⟩, by rw [← hse]; exact hk2.2⟩
            rw [hso2.1]; exact hLs n hn
          · exact hk2.elim
        | exit i => obtain ⟨e2, hf2, hso2, hd2, hk2⟩ := hq; exact ⟨e2, hf2, hso.trans hso2, fun _ => (hd2 hpc).trans hd, hk2⟩
        | ret => obtain ⟨e2, hf2, hso2, hd2, hk2⟩ := hq; exact ⟨e2, hf2, hso.trans hso2, fun _ => (hd2 hpc).trans hd, hk2⟩
        | panic ch => exact hq
        | goto l => exact hq
        | outgrown => exact hq
    · exact h.elim
  | rangeFunc g ps x y ihx ihy =>
    intro ro kn kx kr kp e a w hro hN hs hf h
    rcases hro with rfl | hro
    · exact range_sound (fun ro => ihx (some ro)) (fun ro => ihy (some ro)) hN hs hf h
    · cases hro
  | exit id =>
    intro ro kn kx kr kp e a w hro hN hs hf h
    exact wpIn_exit ⟨e, hf, SameOff.refl _ _, fun _ => rfl, h⟩
  | scope c ih =>
    intro ro kn kx kr kp e a w hro hN hs hf h
    simp only [vc] at h
    simp only [written] at hN ⊢
    refine wpIn_scope_straight (wpIn_mono (ih ro _ _ _ _ e a w hro hN hs hf h) fun ex a' w' hq => ?_)
    cases ex with
    | goto l => exact hq
    | normal => exact hq
    | exit i => exact hq
    | ret => exact hq
    | panic ch => exact hq
    | outgrown => exact hq
  | label l =>
    intro ro kn kx kr kp e a w hro hN hs hf h
    exact wpIn_label ⟨e, hf, SameOff.refl _ _, fun _ => rfl, h⟩
  | goto l => intro ro kn kx kr kp e a w hro hN hs hf h; exact h.elim
  | ret =>
    intro ro kn kx kr kp e a w hro hN hs hf h
    exact wpIn_ret ⟨e, hf, SameOff.refl _ _, fun _ => rfl, h⟩
  | refuse y => intro ro kn kx kr kp e a w hro hN hs hf h; exact h.elim

/-! ### Functions -/
theorem run_loadVar_row {P : Program} {t : TypeId} {d : TypeDesc} {w : World} {a : Addr} {cs : List Value} (ht : P.underlying t = some d) (hag : aggSize P t = some cs.length) (hrow : Row w a cs) :
    (loadVar t a).run P w = .ok (.agg cs.toArray) w := by
  have h1 := run_loadCells (P := P) hrow
  have hc : P.cellsOf t = cs.length := by
    unfold aggSize at hag
    split at hag <;> first | exact Option.some.inj hag | cases hag
  unfold loadVar
  simp only [Sem.run_bind, run_isAgg ht, Result.andThen_ok, hag, Option.isSome_some, if_true, run_sizeOf' ht, hc, h1, Sem.run_pure]
theorem run_loadVar_one {P : Program} {t : TypeId} {d : TypeDesc} {w : World} {a : Addr} {u : Value} (ht : P.underlying t = some d) (hag : aggSize P t = none) (hu : w.cell? a = some u) :
    (loadVar t a).run P w = .ok u w := by
  unfold loadVar
  simp only [Sem.run_bind, run_isAgg ht, Result.andThen_ok, hag]
  simp [hu]
def resRead (tmps : Array Value) : ResultVar → Sem Value
  | .tmp t => pure (tmps.getD t undef)
  | .cell a t => do loadVar t (← asAddr (tmps.getD a undef))
theorem resL_run {P : Program} {e : Env} {w : World} {k : List Value → Prop} {a : Array Value} (hf : e.fits a) : ∀ (l : List ResultVar) (acc : List Value), resL P e w k l acc →
    ∃ vs, (l.mapM (resRead a)).run P w = .ok vs w ∧ k (acc ++ vs)
  | [], acc, h => ⟨[], rfl, by simpa [resL] using h⟩
  | .tmp t :: r, acc, h => by
    simp only [resL] at h
    split at h
    · rename_i v hv
      obtain ⟨vs, hr, hk⟩ := resL_run hf r _ h
      have := hf t v hv
      refine ⟨v :: vs, ?_, by simpa using hk⟩
      rw [List.mapM_cons]
      simp only [Sem.run_bind, resRead]
      have hg : a.getD t undef = v := by simp [this]
      rw [hg]
      simp only [Sem.run_pure, Result.andThen_ok, hr]
    · exact h.elim
  | .cell x t :: r, acc, h => by
    simp only [resL] at h
    split at h
    · rename_i p hp
      have hx := hf x _ hp
      have hg : a.getD x undef = .pointer (some p) := by simp [hx]
      have go : ∀ u, (loadVar t p).run P w = .ok u w → resL P e w k r (acc ++ [u]) → ∃ vs, ((ResultVar.cell x t :: r).mapM (resRead a)).run P w = .ok vs w ∧ k (acc ++ vs) := by
        intro u hu h
        obtain ⟨vs, hr, hk⟩ := resL_run hf r _ h
        refine ⟨u :: vs, ?_, by simpa using hk⟩
        rw [List.mapM_cons]
        simp only [Sem.run_bind, resRead]
        rw [hg]
        simp only [asAddr, Sem.run_pure, Result.andThen_ok, hu, hr]
      split at h
      · rename_i d ht
        obtain ⟨cs, hlen, hrow, h⟩ := h
        exact go _ (run_loadVar_row ht (by simp [aggSize, ht, hlen]) hrow) h
      · rename_i n el ht
        obtain ⟨cs, hlen, hrow, h⟩ := h
        exact go _ (run_loadVar_row ht (by simp [aggSize, ht, hlen]) hrow) h
      · rename_i d hn1 hn2 ht
        obtain ⟨u, hu, h⟩ := h
        have hag : aggSize P t = none := by
          unfold aggSize
          rw [ht]
          split
          · rename_i heq; exact absurd (Option.some.inj heq) (hn1 _)
          · rename_i heq; exact absurd (Option.some.inj heq) (hn2 _ _)
          · rfl
        exact go _ (run_loadVar_one ht hag hu) h
      · exact h.elim
    · exact h.elim
theorem run_results {P : Program} {fn : Func} {tmps : Array Value} {vs : List Value} {w : World} (h : (fn.results.toList.mapM (resRead tmps)).run P w = .ok vs w) : (results fn tmps).run P w = .ok (tup1 vs) w := by
  have e0 : results fn tmps = (do let vs ← fn.results.mapM (resRead tmps); pure (if h : vs.size = 1 then vs[0] else .tuple vs)) := by
    unfold results
    congr 2
  have e : fn.results.mapM (resRead tmps) = List.toArray <$> fn.results.toList.mapM (resRead tmps) := Array.mapM_eq_mapM_toList
  rw [e0, Sem.run_bind, e, Sem.run_map, h]
  simp only [Result.andThen_ok, Sem.run_pure]
  congr 1
  match vs with
  | [] => rfl
  | [v] => rfl
  | _ :: _ :: _ => rfl
theorem argEnv_fits : ∀ (args : List Value) (i : Nat) (a : Array Value), (∀ j v, args[j]? = some v → a[i + j]? = some v) → (argEnv i args).fits a
  | [], _, _, _ => fun n v hn => by cases hn
  | x :: r, i, a, h => by
    intro n v hn
    simp only [argEnv, get_cons] at hn
    split at hn
    · rename_i he; subst he; cases hn; simpa using h 0 x rfl
    · exact argEnv_fits r (i + 1) a (fun j u hj => by have := h (j + 1) u (by simpa using hj); rwa [show i + 1 + j = i + (j + 1) by omega]) n v hn
/-- What is asked of a function's text. -/
def okFn (fn : Func) (n : Nat) : Bool := match fn.body with | some c => okCode fn.ntmps c && Nat.ble n fn.ntmps | none => false
theorem vcFn_sound {P : Program} {plan : Plan} (hm : P.follows .mixedOrders = true) {f : FuncId} {fn : Func} {args : List Value} {w : World} {Q : Value → World → Prop} {kp : List PanicEntry → World → Prop}
    (hfn : P.funcs[f]? = some fn) (hok : okFn fn args.length = true) (h : vcFn P plan fn args w Q kp) : Call P f args.toArray w Q kp := by
  unfold vcFn at h
  unfold okFn at hok
  cases hb : fn.body with
  | none => rw [hb] at h; exact h.elim
  | some c =>
    rw [hb] at h hok
    simp only at h
    simp only [Bool.and_eq_true] at hok
    obtain ⟨hc, hn⟩ := hok
    have hn' : args.length ≤ fn.ntmps := Nat.le_of_ble_eq_true hn
    unfold Call
    refine (callsIn_wide (n := 0)).1 (callsIn_of_wp_marks hfn hb trivial ?_ rfl)
    have hsz : (args.toArray ++ Array.replicate (fn.ntmps - args.toArray.size) undef).size = fn.ntmps := by simp; omega
    have hfit : (argEnv 0 args).fits (args.toArray ++ Array.replicate (fn.ntmps - args.toArray.size) undef) := by
      refine argEnv_fits args 0 _ fun j v hj => ?_
      have hlt : j < args.length := (List.getElem?_eq_some_iff.1 hj).1
      rw [Nat.zero_add, Array.getElem?_append_left (by simpa using hlt)]
      simpa using hj
    have := vc_sound (plan := plan) hm c none _ _ _ _ (argEnv 0 args) { tmps := args.toArray ++ Array.replicate (fn.ntmps - args.toArray.size) undef, defers := [] } w (.inl rfl) (fun d hd => dstBelow_spec hc d hd) hsz hfit h
    have hend : ∀ (e : Env) (tmps : Array Value) (ds : List Deferred) (w' : World), e.fits tmps → endDs ds w' (fun w => resL P e w (fun l => Q (tup1 l) w) fn.results.toList []) →
        LeavesInM Fence.wide 0 P fn tmps (fun e w'' => match e with | .returned v => Q v w'' | .panicked ch => kp ch w'' | .outgrown => False) ds .returning w' := by
      intro e tmps ds
      induction ds with
      | nil =>
        intro w' hf hk
        obtain ⟨vs, hr, hk⟩ := resL_run hf _ _ hk
        exact ⟨_, run_results hr, by simpa using hk⟩
      | cons d r ih =>
        intro w' hf hk
        simp only [endDs] at hk
        split at hk
        · rename_i D hD
          exact ⟨by simp, .inl ⟨D, _, hD, run_takeDeferred hk.1, ih _ hf hk.2⟩⟩
        · exact hk.elim
    refine wpIn_mono this fun ex a' w' hq => ?_
    cases ex with
    | normal => obtain ⟨e, hf, hso, hd, hk⟩ := hq; exact hend e _ _ _ hf hk
    | ret => obtain ⟨e, hf, hso, hd, hk⟩ := hq; exact hend e _ _ _ hf hk
    | exit i => obtain ⟨e, hf, hso, hd, hk⟩ := hq; exact hk.elim
    | goto l => exact hq.elim
    | panic ch =>
      show LeavesInM Fence.wide 0 P fn a'.tmps _ a'.defers (.panicking ch) w'
      rw [hq.1]
      exact hq.2
    | outgrown => exact hq.elim
theorem Call.fn {P : Program} {f : FuncId} {args : Array Value} {w : World} {Q : Value → World → Prop} (h : Call P f args w Q (fun _ _ => False)) : Gives P f args w Q :=
  Calls.mono h fun e w' he => by
    cases e with
    | returned v => exact ⟨v, rfl, he⟩
    | panicked ch => exact he.elim
    | outgrown => exact he.elim
/-- A function returns, and of what it returns this holds. -/
theorem fn_of_vc {P : Program} {plan : Plan} (hm : P.follows .mixedOrders = true) {f : FuncId} {fn : Func} {args : List Value} {w : World} {Q : Value → World → Prop}
    (hfn : P.funcs[f]? = some fn) (hok : okFn fn args.length = true) (h : vcFn P plan fn args w Q (fun _ _ => False)) : Gives P f args.toArray w Q := (vcFn_sound hm hfn hok h).fn
end Go.Vc
