/- A region that draws its order, in one order: its light operations may come late. -/
import Derived.Test.YtmhmlneobbgadaaGreatDoorVcFb
namespace Go.Vc
open Go Go.RowKit

/-- A slot whose operation is still to come. -/
def PendS (ops : List Oper) (listed : Array Bool) (n : Nat) : Prop := ∃ (i : Nat) (o : Oper), ops[i]? = some o ∧ o.dst = some n ∧ listed.getD i true = false
structure SInv (P : Program) (ops : List Oper) (S : List Nat) (t : Nat) (a0 : Act) (e : Env) (listed : Array Bool) (a : Act) (w : World) : Prop where
  size : listed.size = ops.length
  closed : ∀ j oj, ops[j]? = some oj → listed.getD j false = true → ∀ x ∈ oj.after, Region.binds .any x = true → listed.getD x.on false = true
  done : ∀ k i o, S[k]? = some i → k < t → ops[i]? = some o → lightB P o = false → listed.getD i false = true
  rest : ∀ k i, S[k]? = some i → t ≤ k → listed.getD i true = false
  defers : a.defers = a0.defers
  same : SameOff (dsts ops) a0.tmps a.tmps
  frame : ∀ n v, e.get n = some v → a.tmps[n]? = some v ∨ PendS ops listed n
  fresh : ∀ k i o d, S[k]? = some i → t ≤ k → ops[i]? = some o → o.dst = some d → e.get d = none
  float : ∀ k i o, S[k]? = some i → k < t → ops[i]? = some o → listed.getD i true = false → lightB P o = true ∧ ∃ v, (∀ d, o.dst = some d → e.get d = some v) ∧
    ((wantE ops e o = some true ∧ knownL e o.op.operands.toList = true ∧ (execOp (rho e) o).run P w = .ok (.value v) w ∧ (isLoad o.op = false → ∀ w, (execOp (rho e) o).run P w = .ok (.value v) w) ∧ (isLoad o.op = true → ∃ d, o.dst = some d)) ∨ (wantE ops e o = some false ∧ v = undef))
theorem lightB_spec {P : Program} {o : Oper} (h : lightB P o = true) : isSelect o.op = false ∧ (cls P o.op = 0 ∨ (isLoad o.op = true ∧ ∃ d, o.dst = some d)) := by
  unfold lightB at h
  split at h
  · cases h
  · rename_i hs
    split at h
    · rename_i hc; exact ⟨hs, .inl hc⟩
    · split at h
      · rename_i d hd; exact ⟨hs, .inr ⟨h, d, hd⟩⟩
      · cases h
theorem vOp_light {P : Program} {e : Env} {o : Oper} {w : World} {k : Value → World → Prop} {kp : List PanicEntry → World → Prop} (hl : lightB P o = true) (h : vOp P e o w k kp) :
    isSelect o.op = false ∧ knownL e o.op.operands.toList = true ∧ ∃ v, (execOp (rho e) o).run P w = .ok (.value v) w ∧ (isLoad o.op = false → ∀ w, (execOp (rho e) o).run P w = .ok (.value v) w) ∧ k v w := by
  obtain ⟨hs0, hc⟩ := lightB_spec hl
  unfold vOp at h
  split at h
  · exact h.elim
  · rename_i hs
    split at h
    · exact h.elim
    · rename_i hk
      refine ⟨hs, hk, ?_⟩
      split at h
      · obtain ⟨v, hv, hk⟩ := vPure_run h
        exact ⟨v, hv w, fun _ => hv, hk⟩
      · rename_i h1
        obtain ⟨v, hv, hk⟩ := vRead_run h
        refine ⟨v, hv w (Below.refl _ _), fun hn => ?_, hk⟩
        rcases hc with hc | ⟨hc, _⟩
        · rw [h1] at hc; cases hc
        · rw [hc] at hn; cases hn
      · rename_i h0 h1
        rcases hc with hc | ⟨hc, _⟩
        · exact absurd hc h0
        · exact absurd (isLoad_cls hc) h1
theorem wantE_get {ops : List Oper} {e f : Env} (h : ∀ n, f.get n = e.get n) (o : Oper) : wantE ops f o = wantE ops e o := by
  have hg : ∀ j, guardVal ops f j = guardVal ops e j := fun j => by
    unfold guardVal
    split
    · split
      · exact h _
      · rfl
    · rfl
  unfold wantE
  split
  · rfl
  · rw [hg]
theorem sStills_out {P : Program} {ops : List Oper} {e : Env} {w : World} {k : Prop} : ∀ (l : List Nat), sStills P ops e w k l → k ∧ ∀ j ∈ l, ∀ o, ops[j]? = some o → wantE ops e o = some true → Still P e o w
  | [], h => ⟨h, fun _ h => by cases h⟩
  | j :: r, h => by
    unfold sStills at h
    split at h
    · rename_i o ho
      split at h
      · obtain ⟨h1, h2⟩ := h
        obtain ⟨hk, hr⟩ := sStills_out r h2
        refine ⟨hk, fun x hx p hp hw => ?_⟩
        cases hx with
        | head => rw [ho] at hp; cases hp; exact h1
        | tail _ hx => exact hr x hx p hp hw
      · rename_i hwf
        obtain ⟨hk, hr⟩ := sStills_out r h
        refine ⟨hk, fun x hx p hp hw => ?_⟩
        cases hx with
        | head => rw [ho] at hp; cases hp; rw [hwf] at hw; cases hw
        | tail _ hx => exact hr x hx p hp hw
      · exact h.elim
    · exact h.elim
theorem aft_spec {ops : List Oper} {listed : Array Bool} {i : Nat} (hcl : ∀ j oj, ops[j]? = some oj → listed.getD j false = true → ∀ x ∈ oj.after, Region.binds .any x = true → listed.getD x.on false = true) :
    ∀ (r acc : List Nat), (∀ x ∈ acc, listed.getD x false = true → listed.getD i false = true) → aftOk ops r acc = true →
      ∀ q ∈ r, ∀ o, ops[q]? = some o → (∀ x ∈ o.after, Region.binds .any x = true → listed.getD x.on false = true) → listed.getD i false = true
  | [], _, _, _, q, hq, _, _, _ => by cases hq
  | p :: r, acc, hacc, h, q, hq, o, ho, hr => by
    unfold aftOk at h
    split at h
    · rename_i hp
      split at hp
      · rename_i op hop
        obtain ⟨x, hx, hb⟩ := List.any_eq_true.1 hp
        split at hb
        · rename_i hbb
          have hxa := (memB_iff _ _).1 hb
          have hp2 : (∀ x ∈ op.after, Region.binds .any x = true → listed.getD x.on false = true) → listed.getD i false = true := fun hh => hacc _ hxa (hh x (by simpa using hx) hbb)
          cases hq with
          | head => rw [ho] at hop; cases hop; exact hp2 hr
          | tail _ hq =>
            refine aft_spec hcl r (p :: acc) (fun y hy hly => ?_) h q hq o ho hr
            cases hy with
            | head => exact hp2 (hcl _ _ hop hly)
            | tail _ hy => exact hacc y hy hly
        · cases hb
      · cases hp
    · cases h
theorem heavy_spec {P : Program} {ops : List Oper} : ∀ (S : List Nat), heavyOk P ops S = true → ∀ t i o, S[t]? = some i → ops[i]? = some o → lightB P o = false → aftOk ops (S.drop (t + 1)) [i] = true
  | [], _, t, i, o, hi, _, _ => by simp at hi
  | p :: r, h, t, i, o, hi, ho, hl => by
    unfold heavyOk at h
    split at h
    · rename_i hp
      cases t with
      | zero =>
        simp only [List.getElem?_cons_zero, Option.some.injEq] at hi
        subst hi
        rw [ho] at hp
        simp only at hp
        rw [hl] at hp
        exact hp
      | succ t => exact heavy_spec r h t i o (by simpa using hi) ho hl
    · cases h
theorem pre_succ {S : List Nat} {t i : Nat} (h : S[t]? = some i) : (S.take (t + 1)).reverse = i :: (S.take t).reverse := by
  obtain ⟨hlt, rfl⟩ := List.getElem?_eq_some_iff.1 h
  rw [← List.take_append_getElem hlt, List.reverse_append]; rfl
theorem drop_at {S : List Nat} {t i : Nat} (h : S[t]? = some i) : S.drop t = i :: S.drop (t + 1) := by
  obtain ⟨hlt, rfl⟩ := List.getElem?_eq_some_iff.1 h
  exact List.drop_eq_getElem_cons hlt
section
variable {ro : Option Nat} {P : Program} {ops : List Oper} {S : List Nat} {a0 : Act} {kn : Env → World → Prop} {kp : List PanicEntry → World → Prop} {Q : Exit → Act → World → Prop}
theorem put_sub {e e1 : Env} {o : Oper} {v : Value} (he : ∀ n, e1.get n = e.get n) (hfr : ∀ d, o.dst = some d → e.get d = none) : Sub e (e1.put o.dst v) := fun n u hn => by
  cases hod : o.dst with
  | none => simp only [Env.put]; rw [he]; exact hn
  | some x =>
    simp only [Env.put, get_cons]
    split
    · rename_i hx; subst hx; rw [hfr _ hod] at hn; cases hn
    · rw [he]; exact hn
/-- A light operation is counted in, done or not. -/
theorem SInv.grow (hnd : (dsts ops).Nodup) (hSn : S.Nodup) {t i : Nat} {e e1 : Env} {listed : Array Bool} {a : Act} {w : World} {o : Oper} {v : Value} (inv : SInv P ops S t a0 e listed a w) (hi : S[t]? = some i) (ho : ops[i]? = some o) (hl : lightB P o = true)
    (he : ∀ n, e1.get n = e.get n)
    (hv : (wantE ops e o = some true ∧ knownL e1 o.op.operands.toList = true ∧ (execOp (rho e1) o).run P w = .ok (.value v) w ∧ (isLoad o.op = false → ∀ w, (execOp (rho e1) o).run P w = .ok (.value v) w)) ∨ (wantE ops e o = some false ∧ v = undef)) :
    SInv P ops S (t + 1) a0 (e1.put o.dst v) listed a w := by
  have hfr : ∀ d, o.dst = some d → e.get d = none := fun d hd => inv.fresh t i o d hi (Nat.le_refl _) ho hd
  have hsub : Sub e (e1.put o.dst v) := put_sub he hfr
  have hsub1 : Sub e1 (e1.put o.dst v) := fun n u hn => hsub n u (by rw [← he]; exact hn)
  have hun := inv.rest t i hi (Nat.le_refl _)
  refine ⟨inv.size, inv.closed, fun k j oj hj hk hoj hlj => ?_, fun k j hj hk => inv.rest k j hj (by omega), inv.defers, inv.same, fun n u hn => ?_, fun k j oj d hj hk hoj hd => ?_, fun k j oj hj hk hoj hjun => ?_⟩
  · rcases Nat.lt_or_ge k t with h | h
    · exact inv.done k j oj hj h hoj hlj
    · have : k = t := by omega
      subst this
      rw [hi] at hj; cases hj
      rw [ho] at hoj; cases hoj
      rw [hl] at hlj; cases hlj
  · cases hod : o.dst with
    | none => rw [hod] at hn; simp only [Env.put] at hn; rw [he] at hn; exact inv.frame n u hn
    | some x =>
      rw [hod] at hn
      simp only [Env.put, get_cons] at hn
      split at hn
      · rename_i hx; subst hx; exact .inr ⟨i, o, ho, hod, hun⟩
      · rw [he] at hn; exact inv.frame n u hn
  · have h1 := inv.fresh k j oj d hj (by omega) hoj hd
    cases hod : o.dst with
    | none => simp only [Env.put]; rw [he]; exact h1
    | some x =>
      simp only [Env.put, get_cons]
      rw [if_neg (fun (hx : x = d) => by
        have hij := same_dst hnd ho hoj hod (by rw [hx]; exact hd)
        subst hij
        have := (List.getElem?_inj (List.getElem?_eq_some_iff.1 hi).1 hSn).1 (hi.trans hj.symm)
        omega), he]
      exact h1
  · rcases Nat.lt_or_ge k t with h | h
    · obtain ⟨h1, u, h2, h3⟩ := inv.float k j oj hj h hoj hjun
      refine ⟨h1, u, fun d hd => hsub _ _ (h2 d hd), ?_⟩
      rcases h3 with ⟨h4, h5, h6, h7, h8⟩ | ⟨h4, h5⟩
      · obtain ⟨hk2, hr2⟩ := knownL_sub hsub _ h5
        have hex := execOp_congr oj (not_select (lightB_spec h1).1) (fun x hx => hr2 x (by simpa using hx))
        exact .inl ⟨wantE_sub hsub h4, hk2, by rw [← hex]; exact h6, fun hh => by rw [← hex]; exact h7 hh, h8⟩
      · exact .inr ⟨wantE_sub hsub h4, h5⟩
    · have : k = t := by omega
      subst this
      rw [hi] at hj; cases hj
      rw [ho] at hoj; cases hoj
      refine ⟨hl, v, fun d hd => by rw [hd]; simp [Env.put, get_cons], ?_⟩
      rcases hv with ⟨h4, h5, h6, h7⟩ | ⟨h4, h5⟩
      · obtain ⟨hk2, hr2⟩ := knownL_sub hsub1 _ h5
        have hex := execOp_congr o (not_select (lightB_spec hl).1) (fun x hx => hr2 x (by simpa using hx))
        refine .inl ⟨wantE_sub hsub h4, hk2, by rw [← hex]; exact h6, fun hh => by rw [← hex]; exact h7 hh, fun hh => ?_⟩
        rcases (lightB_spec hl).2 with h | ⟨_, h⟩
        · rw [isLoad_cls hh] at h; cases h
        · exact h
      · exact .inr ⟨wantE_sub hsub h4, h5⟩
/-- On to the next heavy one. -/
theorem seq_adv (hnd : (dsts ops).Nodup) (hSn : S.Nodup) {listed : Array Bool} {a : Act} {w : World} : ∀ (m t : Nat) (e : Env), S.length - t = m → t ≤ S.length → SInv P ops S t a0 e listed a w → vcSeq P ops kn kp (S.drop t) (S.take t).reverse e w →
    ∃ t' e', SInv P ops S t' a0 e' listed a w ∧ t ≤ t' ∧ t' ≤ S.length ∧ vcSeq P ops kn kp (S.drop t') (S.take t').reverse e' w ∧ (t' = S.length ∨ ∃ i o, S[t']? = some i ∧ ops[i]? = some o ∧ lightB P o = false) := by
  intro m
  induction m with
  | zero => intro t e hm ht inv h; exact ⟨t, e, inv, Nat.le_refl _, ht, h, .inl (by omega)⟩
  | succ m ih =>
    intro t e hm ht inv h
    have hi : S[t]? = some (S[t]'(by omega)) := List.getElem?_eq_getElem (by omega)
    generalize (S[t]'(by omega)) = i at hi
    have h0 := h
    rw [drop_at hi] at h
    unfold vcSeq at h
    split at h
    · exact h.elim
    · rename_i o ho
      cases hl : lightB P o with
      | false => exact ⟨t, e, inv, Nat.le_refl _, ht, h0, .inr ⟨i, o, hi, ho, hl⟩⟩
      | true =>
        rw [← pre_succ hi] at h
        have run : ∀ e1 : Env, (∀ n, e1.get n = e.get n) → wantE ops e o = some true → seqOp P ops (S.take t).reverse i o e1 w (fun e w => vcSeq P ops kn kp (S.drop (t + 1)) (S.take (t + 1)).reverse e w) kp →
            ∃ t' e', SInv P ops S t' a0 e' listed a w ∧ t ≤ t' ∧ t' ≤ S.length ∧ vcSeq P ops kn kp (S.drop t') (S.take t').reverse e' w ∧ (t' = S.length ∨ ∃ i o, S[t']? = some i ∧ ops[i]? = some o ∧ lightB P o = false) := by
          intro e1 he hw hh
          unfold seqOp at hh
          obtain ⟨hs, hk, v, hr, hp, hkv⟩ := vOp_light hl hh
          rw [hl] at hkv
          obtain ⟨t', e', h1, h2, h3⟩ := ih (t + 1) _ (by omega) (by omega) (inv.grow hnd hSn hi ho hl he (.inl ⟨hw, hk, hr, hp⟩)) hkv
          exact ⟨t', e', h1, by omega, h3⟩
        have skip : ∀ e1 : Env, (∀ n, e1.get n = e.get n) → wantE ops e o = some false → vcSeq P ops kn kp (S.drop (t + 1)) (S.take (t + 1)).reverse (e1.put o.dst undef) w →
            ∃ t' e', SInv P ops S t' a0 e' listed a w ∧ t ≤ t' ∧ t' ≤ S.length ∧ vcSeq P ops kn kp (S.drop t') (S.take t').reverse e' w ∧ (t' = S.length ∨ ∃ i o, S[t']? = some i ∧ ops[i]? = some o ∧ lightB P o = false) := by
          intro e1 he hw hh
          obtain ⟨t', e', h1, h2, h3⟩ := ih (t + 1) _ (by omega) (by omega) (inv.grow hnd hSn hi ho hl he (.inr ⟨hw, rfl⟩)) hh
          exact ⟨t', e', h1, by omega, h3⟩
        unfold seqStep at h
        split at h
        · rename_i hg
          exact run e (fun _ => rfl) (by unfold wantE; rw [hg]) h
        · rename_i j want hg
          split at h
          · rename_i b hv
            have hw : wantE ops e o = some (b == want) := by unfold wantE; rw [hg]; simp only; rw [hv]
            cases b with
            | true =>
              simp only [Gd] at h
              cases want with
              | true => exact run _ (guardDst_get hv) hw h
              | false => exact skip _ (guardDst_get hv) hw h
            | false =>
              simp only [Gd] at h
              cases want with
              | false => exact run _ (guardDst_get hv) hw h
              | true => exact skip _ (guardDst_get hv) hw h
          · rename_i vs hv
            have hw : wantE ops e o = some false := by unfold wantE; rw [hg]; simp only; rw [hv]
            exact skip e (fun _ => rfl) hw h
          · exact h.elim
/-- One that is ready: a light one that comes late, or the next heavy one. -/
theorem seq_one (hnd : (dsts ops).Nodup) (hlook : ∀ o ∈ ops, looksB ops o = true) (hSn : S.Nodup) (hsz : ∀ d ∈ dsts ops, d < a0.tmps.size) (hQp : ∀ ch a' w', kp ch w' → a'.defers = a0.defers → Q (.panic ch) a' w')
    {listed : Array Bool} {a : Act} {w : World} {e : Env} {t : Nat} {R : Env → World → Prop} {K : Act → World → Prop} (inv : SInv P ops S t a0 e listed a w) {i k : Nat} (hi : i ∈ Region.ready .any ops.toArray listed) (hkS : S[k]? = some i)
    (hL : k < t → ∀ a', SInv P ops S t a0 e (listed.setIfInBounds i true) a' w → K a' w)
    (hH : ¬ k < t → k = t ∧ ∃ o, ops[i]? = some o ∧ lightB P o = false ∧ seqStep P ops (S.take k).reverse i o e w R kp)
    (hN : k = t → ∀ e' a' w', SInv P ops S (k + 1) a0 e' (listed.setIfInBounds i true) a' w' → R e' w' → K a' w') :
    wpOpIn (FW ro) 0 P ops.toArray Q i K a w := by
  obtain ⟨hun, o, ho, hready⟩ := mem_ready.1 hi
  have ho' : ops[i]? = some o := by simpa using ho
  have hil : i < ops.length := (List.getElem?_eq_some_iff.1 ho').1
  have hmem : o ∈ ops := List.mem_of_getElem? ho'
  have hlo : ∀ d, o.dst = some d → d ∈ dsts ops := fun d hd => mem_dsts hd hmem
  have hszd : ∀ d, o.dst = some d → d < a.tmps.size := fun d hd => by rw [inv.same.1]; exact hsz d (hlo d hd)
  have hnp : ∀ x ∈ o.looksAt ops.toArray, ¬ PendS ops listed x := by
    rintro x hx ⟨j, oj, hoj, hjd, hjun⟩
    obtain ⟨y, hy, hyb, hyo⟩ := looksB_spec (hlook o hmem) hx hoj hjd
    have := hready y hy hyb
    rw [hyo] at this
    exact getD_tf hjun this
  have slot : ∀ x ∈ o.looksAt ops.toArray, ∀ v, e.get x = some v → a.tmps[x]? = some v := fun x hx v hv => (inv.frame x v hv).resolve_right (hnp x hx)
  have hrho : ∀ e' : Env, (∀ n, e'.get n = e.get n) → knownL e' o.op.operands.toList = true → ∀ x ∈ o.op.operands, rho e' x = a.eval x := by
    intro e' he' hk x hx
    have key : ∀ (l : List Operand), knownL e' l = true → x ∈ l → ∃ v, ev e' x = some v := by
      intro l
      induction l with
      | nil => intro _ h; cases h
      | cons y r ihr =>
        intro hk h
        simp only [knownL] at hk
        split at hk
        · rename_i v hv
          cases h with
          | head => exact ⟨v, hv⟩
          | tail _ h => exact ihr hk h
        · cases hk
    obtain ⟨v, hv⟩ := key _ hk (by simpa using hx)
    unfold rho; rw [hv]
    cases x with
    | tmp t' =>
      have hv' : e.get t' = some v := by rw [← he']; exact hv
      have := slot t' (by unfold Oper.looksAt; exact List.mem_append_left _ (List.mem_filterMap.2 ⟨.tmp t', by simpa using hx, rfl⟩)) v hv'
      simp [Act.eval, this]
    | const u => cases hv; rfl
    | global g => cases hv; rfl
    | func g => cases hv; rfl
  have getset : ∀ j, (listed.setIfInBounds i true).getD j false = true → j = i ∨ listed.getD j false = true := by
    intro j hj
    by_cases hij : i = j
    · exact .inl hij.symm
    · rw [getD_set_ne false hij] at hj; exact .inr hj
  have setun : ∀ j, (listed.setIfInBounds i true).getD j true = false → j ≠ i ∧ listed.getD j true = false := by
    intro j hj
    by_cases hij : i = j
    · subst hij
      have : i < listed.size := by rw [inv.size]; exact hil
      simp [this] at hj
    · rw [getD_set_ne true hij] at hj; exact ⟨fun h => hij h.symm, hj⟩
  have seton : ∀ j, listed.getD j false = true → (listed.setIfInBounds i true).getD j false = true := fun j hj => getD_set_true hj
  have setself : (listed.setIfInBounds i true).getD i false = true := by
    have : i < listed.size := by rw [inv.size]; exact hil
    simp [this]
  have putd : ∀ (v : Value) d, o.dst = some d → (a.put o.dst v).tmps[d]? = some v := by
    intro v d hd
    rw [hd]
    simp only [Act.put]
    rw [Array.getElem?_setIfInBounds_self_of_lt (hszd d hd)]
  have puto : ∀ (v : Value) n, (∀ d, o.dst = some d → d ≠ n) → (a.put o.dst v).tmps[n]? = a.tmps[n]? := by
    intro v n hn
    cases hod : o.dst with
    | none => rfl
    | some x =>
      simp only [Act.put]
      rw [Array.getElem?_setIfInBounds_ne (hn x hod)]
  have hclosed' : ∀ j oj, ops[j]? = some oj → (listed.setIfInBounds i true).getD j false = true → ∀ x ∈ oj.after, Region.binds .any x = true → (listed.setIfInBounds i true).getD x.on false = true := by
    intro j oj hj hlj x hx hxb
    by_cases hji : j = i
    · subst hji
      have : oj = o := Option.some.inj (hj.symm.trans ho')
      subst this
      exact seton _ (hready x hx hxb)
    · exact seton _ (inv.closed j oj hj ((getset j hlj).resolve_left hji) x hx hxb)
  have hguard : ∀ j want v, o.guard = some (j, want) → guardVal ops e j = some v → yielded ops.toArray a.tmps j = match v with | .bool b => some b | _ => none := by
    intro j want v hg hv
    have hv' := hv
    unfold guardVal at hv'
    split at hv'
    · rename_i oj hj
      split at hv'
      · rename_i d hd
        have := slot d (by
          unfold Oper.looksAt
          refine List.mem_append_right _ ?_
          rw [hg]
          simp [hj, hd]) v hv'
        unfold yielded
        simp only [List.getElem?_toArray, hj, Option.bind_some, hd, this]
        cases v <;> rfl
      · cases hv'
    · cases hv'
  have hwanted : ∀ b, wantE ops e o = some b → Region.wanted o (yielded ops.toArray a.tmps) = b := by
    intro b hb
    unfold wantE at hb
    split at hb
    · rename_i hg; cases hb; unfold Region.wanted; rw [hg]
    · rename_i j want hg
      split at hb
      · rename_i c hv
        have hy := hguard j want _ hg hv
        simp only at hy
        cases hb
        unfold Region.wanted; rw [hg]; simp only; rw [hy]; cases c <;> cases want <;> rfl
      · rename_i vs hv
        have hy := hguard j want _ hg hv
        simp only at hy
        cases hb
        unfold Region.wanted; rw [hg]; simp only; rw [hy]; cases want <;> rfl
      · cases hb
  unfold wpOpIn
  rw [ho]
  simp only
  have hSne : ∀ k' j, S[k']? = some j → k' ≠ k → j ≠ i := fun k' j h1 h2 h3 => by
    subst h3
    exact h2 ((List.getElem?_inj (List.getElem?_eq_some_iff.1 h1).1 hSn).1 (h1.trans hkS.symm))
  rcases Nat.lt_or_ge k t with hkt | hkt
  · -- a light one that comes late
    obtain ⟨hl, v, hvd, hout⟩ := inv.float k i o hkS hkt ho' hun
    have next : K (a.put o.dst v) w := by
      refine hL hkt _ ⟨by simp [inv.size], hclosed', fun k' j oj h1 h2 h3 h4 => seton j (inv.done k' j oj h1 h2 h3 h4), fun k' j h1 h2 => ?_, by rw [put_defers]; exact inv.defers, inv.same.trans (SameOff.put a v hlo), ?_, inv.fresh, ?_⟩
      · rw [getD_set_ne true (fun (hh : i = j) => hSne k' j h1 (by omega) hh.symm)]; exact inv.rest k' j h1 h2
      · intro n u hn
        by_cases hnd' : o.dst = some n
        · rw [hvd n hnd'] at hn; cases hn
          exact .inl (putd v n hnd')
        · rcases inv.frame n u hn with hfr | ⟨j, oj, hoj, hjd, hjun⟩
          · refine .inl ?_
            rw [puto v n (fun d hd hh => hnd' (by rw [hd, hh]))]; exact hfr
          · have hji : j ≠ i := fun hh => by
              subst hh
              have : oj = o := Option.some.inj (hoj.symm.trans ho')
              subst this
              exact hnd' hjd
            exact .inr ⟨j, oj, hoj, hjd, by rw [getD_set_ne true (Ne.symm hji)]; exact hjun⟩
      · intro k' j oj h1 h2 h3 hjun
        exact inv.float k' j oj h1 h2 h3 (setun j hjun).2
    rcases hout with ⟨hw, hk, hrun, _, _⟩ | ⟨hw, rfl⟩
    · rw [if_pos (hwanted _ hw)]
      have hsel := (lightB_spec hl).1
      have hrun' : (execOp a.eval o).run P w = .ok (.value v) w := by
        rw [← execOp_congr o (not_select hsel) (hrho e (fun _ => rfl) hk)]; exact hrun
      exact wp_of_run hsel hrun' next
    · rw [if_neg (by rw [hwanted _ hw]; decide)]
      exact ⟨fun _ _ => trivial, next⟩
  · obtain ⟨hit, o2, hoh, hlh, h⟩ := hH (Nat.not_lt.2 hkt)
    subst hit
    rw [ho'] at hoh; cases hoh
    have hfresh : ∀ d, o.dst = some d → e.get d = none := fun d hd => inv.fresh k i o d hkS (Nat.le_refl _) ho' hd
    -- the state behind it
    have next : ∀ (e' : Env) (v : Value) (w' : World), (∀ n, e'.get n = e.get n) → R (e'.put o.dst v) w' →
        (∀ k' j oj, S[k']? = some j → k' < k → ops[j]? = some oj → listed.getD j true = false → wantE ops e oj = some true → ∀ u, (∀ d, oj.dst = some d → e.get d = some u) → (execOp (rho e) oj).run P w = .ok (.value u) w → (execOp (rho e) oj).run P w' = .ok (.value u) w') →
        K (a.put o.dst v) w' := by
      intro e' v w' he' hk hfl
      have hsub : Sub e (e'.put o.dst v) := put_sub he' hfresh
      refine hN rfl _ _ w' ⟨by simp [inv.size], hclosed', fun k' j oj h1 h2 h3 h4 => ?_, fun k' j h1 h2 => ?_, by rw [put_defers]; exact inv.defers, inv.same.trans (SameOff.put a v hlo), ?_, ?_, ?_⟩ hk
      · by_cases hj : k' = k
        · subst hj
          rw [hkS] at h1; cases h1
          exact setself
        · exact seton j (inv.done k' j oj h1 (by omega) h3 h4)
      · rw [getD_set_ne true (fun hh => hSne k' j h1 (by omega) hh.symm)]; exact inv.rest k' j h1 (by omega)
      · intro n u hn
        by_cases hnd' : o.dst = some n
        · have : u = v := by
            rw [hnd'] at hn
            simp only [Env.put, get_cons] at hn
            simpa using hn.symm
          subst this
          exact .inl (putd u n hnd')
        · have hn' : e.get n = some u := by
            cases hod : o.dst with
            | none => rw [hod] at hn; simp only [Env.put] at hn; rw [he'] at hn; exact hn
            | some x =>
              rw [hod] at hn
              simp only [Env.put, get_cons] at hn
              rw [if_neg (fun hx => hnd' (by rw [hod, hx])), he'] at hn
              exact hn
          rcases inv.frame n u hn' with hfr | ⟨j, oj, hoj, hjd, hjun⟩
          · refine .inl ?_
            rw [puto v n (fun d hd hh => hnd' (by rw [hd, hh]))]; exact hfr
          · have hji : j ≠ i := fun hh => by
              subst hh
              have : oj = o := Option.some.inj (hoj.symm.trans ho')
              subst this
              exact hnd' hjd
            exact .inr ⟨j, oj, hoj, hjd, by rw [getD_set_ne true (Ne.symm hji)]; exact hjun⟩
      · intro k' j oj d hkj hj hoj hd
        have h1 := inv.fresh k' j oj d hkj (by omega) hoj hd
        cases hod : o.dst with
        | none => simp only [Env.put]; rw [he']; exact h1
        | some x =>
          simp only [Env.put, get_cons]
          rw [if_neg (fun (hx : x = d) => by
            have := same_dst hnd ho' hoj hod (by rw [hx]; exact hd)
            exact hSne k' j hkj (by omega) this.symm), he']
          exact h1
      · intro k' j oj hkj hj hoj hjun
        obtain ⟨hji, hjun'⟩ := setun j hjun
        have hk'k : k' ≠ k := fun hh => by subst hh; rw [hkS] at hkj; cases hkj; exact hji rfl
        obtain ⟨hl, u, hud, hout⟩ := inv.float k' j oj hkj (by omega) hoj hjun'
        refine ⟨hl, u, fun d hd => hsub _ _ (hud d hd), ?_⟩
        rcases hout with ⟨hw, hkn, hrun, hpure, hld⟩ | ⟨hw, hu⟩
        · obtain ⟨hk2, hr2⟩ := knownL_sub hsub _ hkn
          have hex := execOp_congr oj (not_select (lightB_spec hl).1) (fun x hx => hr2 x (by simpa using hx))
          exact .inl ⟨wantE_sub hsub hw, hk2, by rw [← hex]; exact hfl k' j oj hkj (by omega) hoj hjun' hw u hud hrun, fun hh => by rw [← hex]; exact hpure hh, hld⟩
        · exact .inr ⟨wantE_sub hsub hw, hu⟩
    have hsunk : ∀ (n j : Nat), i - j ≤ n → j ∈ sunkL ops i [i] → j = i ∨ listed.getD j false = true := by
      intro n
      induction n with
      | zero =>
        intro j hn hj
        rcases sunk_spec (ops := ops) (t0 := i) (T := []) (i := j) hj with h1 | ⟨j', _, h2, h3, _⟩
        · exact .inl h1
        · omega
      | succ n ihn =>
        intro j hn hj
        rcases sunk_spec (ops := ops) (t0 := i) (T := []) (i := j) hj with h1 | ⟨j', hj', h2, h3, hw⟩
        · exact .inl h1
        · obtain ⟨oj, hoj, x, hx, hxb, hxo⟩ := waitsB_spec hw
          rcases ihn j' (by omega) hj' with h4 | h4
          · subst h4
            have : oj = o := Option.some.inj (hoj.symm.trans ho')
            subst this
            have := hready x hx hxb
            rw [hxo] at this
            exact .inr this
          · have := inv.closed j' oj hoj h4 x hx hxb
            rw [hxo] at this
            exact .inr this
    have keepStill : ∀ (e' : Env) (w' : World), (∀ n, e'.get n = e.get n) → (∀ j ∈ pendL ops (S.take k).reverse i, ∀ oj, ops[j]? = some oj → wantE ops e' oj = some true → Still P e' oj w') →
        ∀ k' j oj, S[k']? = some j → k' < k → ops[j]? = some oj → listed.getD j true = false → wantE ops e oj = some true → ∀ u, (∀ d, oj.dst = some d → e.get d = some u) → (execOp (rho e) oj).run P w = .ok (.value u) w → (execOp (rho e) oj).run P w' = .ok (.value u) w' := by
      intro e' w' he' hst k' j oj hkj hk'k hoj hjun hw u hud hrun
      obtain ⟨hl, u', hud', hout⟩ := inv.float k' j oj hkj hk'k hoj hjun
      rcases hout with ⟨_, hkn, hrun', hpure, hld⟩ | ⟨hw', _⟩
      · by_cases hlo : isLoad oj.op = true
        · obtain ⟨d, hd⟩ := hld hlo
          have hke : knownL e' oj.op.operands.toList = true ∧ ∀ x ∈ oj.op.operands.toList, rho e x = rho e' x := knownL_sub (fun n v hn => by rw [he']; exact hn) _ hkn
          have hex := execOp_congr oj (not_select (lightB_spec hl).1) (fun x hx => hke.2 x (by simpa using hx))
          rw [hex]
          refine still_run hd (by rw [he']; exact hud d hd) (hst j ?_ oj hoj (by rw [wantE_get he']; exact hw))
          unfold pendL
          refine List.mem_filter.2 ⟨List.mem_reverse.2 (List.mem_take_iff_getElem.2 ⟨k', ?_, ?_⟩), ?_⟩
          · have := (List.getElem?_eq_some_iff.1 hkj).1; omega
          · exact (List.getElem?_eq_some_iff.1 hkj).2
          · rw [hoj]
            simp only
            rw [hlo]
            have : memB (sunkL ops i [i]) j = false := by
              rw [memB_false]
              intro hm
              rcases hsunk _ j (Nat.le_refl _) hm with h1 | h1
              · exact hSne k' j hkj (by omega) h1
              · exact getD_tf hjun h1
            simp [this]
        · have h1 := hpure (by simpa using hlo) w'
          have h2 := hpure (by simpa using hlo) w
          rw [hrun] at h2
          cases h2
          exact h1
      · rw [hw] at hw'; cases hw'
    have keepSame : ∀ k' j oj, S[k']? = some j → k' < k → ops[j]? = some oj → listed.getD j true = false → wantE ops e oj = some true → ∀ u, (∀ d, oj.dst = some d → e.get d = some u) → (execOp (rho e) oj).run P w = .ok (.value u) w → (execOp (rho e) oj).run P w = .ok (.value u) w := fun _ _ _ _ _ _ _ _ _ _ h => h
    -- the heavy one at an environment like e
    have step : ∀ e' : Env, (∀ n, e'.get n = e.get n) → seqOp P ops (S.take k).reverse i o e' w R kp →
        o.wpIn (FW ro) 0 P a w K Q := by
      intro e' he' hv
      unfold seqOp at hv
      obtain ⟨hsel, hk, hc⟩ := vOp_cases hv
      have hex := execOp_congr o (not_select hsel) (hrho e' he' hk)
      rcases hc with ⟨hcl, v, hrun, hkv⟩ | ⟨h0, h1, hy⟩
      · rw [hex] at hrun
        rw [hlh] at hkv
        obtain ⟨hkt, hst⟩ := sStills_out _ hkv
        exact wp_of_run hsel hrun (next e' v w he' hkt keepSame)
      · rw [hex] at hy
        refine wp_of_yield hsel hy (fun v w' hkv => ?_) (fun ch w' hch => hQp ch a w' hch inv.defers)
        rw [hlh] at hkv
        obtain ⟨hkt, hst⟩ := sStills_out _ hkv
        exact next e' v w' he' hkt (keepStill e' w' he' hst)
    have skip : ∀ (e' : Env), (∀ n, e'.get n = e.get n) → R (e'.put o.dst undef) w → K (a.put o.dst undef) w :=
      fun e' he' hk => next e' undef w he' hk keepSame
    unfold seqStep at h
    split at h
    · rename_i hg
      rw [if_pos (hwanted true (by unfold wantE; rw [hg]))]
      exact step e (fun _ => rfl) h
    · rename_i j want hg
      split at h
      · rename_i b hv
        have hw : wantE ops e o = some (b == want) := by unfold wantE; rw [hg]; simp only; rw [hv]
        cases b with
        | true =>
          simp only [Gd] at h
          cases want with
          | true => rw [if_pos (hwanted true hw)]; exact step _ (guardDst_get hv) h
          | false => rw [if_neg (by rw [hwanted false hw]; decide)]; exact ⟨fun _ _ => trivial, skip _ (guardDst_get hv) h⟩
        | false =>
          simp only [Gd] at h
          cases want with
          | false => rw [if_pos (hwanted true hw)]; exact step _ (guardDst_get hv) h
          | true => rw [if_neg (by rw [hwanted false hw]; decide)]; exact ⟨fun _ _ => trivial, skip _ (guardDst_get hv) h⟩
      · rename_i vs hv
        have hw : wantE ops e o = some false := by unfold wantE; rw [hg]; simp only; rw [hv]
        rw [if_neg (by rw [hwanted _ hw]; decide)]
        exact ⟨fun _ _ => trivial, skip e (fun _ => rfl) h⟩
      · exact h.elim
/-- Of what is to come the next heavy one alone is ready. -/
theorem seq_pos {t : Nat} {e : Env} {listed : Array Bool} {a : Act} {w : World} (hend : t = S.length ∨ ∃ i o, S[t]? = some i ∧ ops[i]? = some o ∧ lightB P o = false) (inv : SInv P ops S t a0 e listed a w)
    (hheavy : ∀ i o, S[t]? = some i → ops[i]? = some o → lightB P o = false → aftOk ops (S.drop (t + 1)) [i] = true) {i k : Nat} (hi : i ∈ Region.ready .any ops.toArray listed) (hkS : S[k]? = some i) (hkt : t ≤ k) : k = t ∧ ∃ o, ops[i]? = some o ∧ lightB P o = false := by
  obtain ⟨hun, o, ho, hready⟩ := mem_ready.1 hi
  have ho' : ops[i]? = some o := by simpa using ho
  have hkl := (List.getElem?_eq_some_iff.1 hkS).1
  rcases hend with hend | ⟨ih', oh, hih, hoh, hlh⟩
  · omega
  have hit : k = t := by
    rcases Nat.eq_or_lt_of_le hkt with h2 | h2
    · exact h2.symm
    · exfalso
      have ha := hheavy ih' oh hih hoh hlh
      have h3 := aft_spec (i := ih') inv.closed _ [ih'] (fun x hx hlx => by rw [List.mem_singleton] at hx; rw [hx] at hlx; exact hlx) ha i (by
        have : (S.drop (t + 1))[k - (t + 1)]? = some i := by rw [List.getElem?_drop, show t + 1 + (k - (t + 1)) = k by omega]; exact hkS
        exact List.mem_of_getElem? this) o ho' hready
      exact getD_tf (inv.rest t ih' hih (Nat.le_refl _)) h3
  subst hit
  rw [hkS] at hih; cases hih
  exact ⟨rfl, oh, hoh, hlh⟩
theorem seq_any (hnd : (dsts ops).Nodup) (hlook : ∀ o ∈ ops, looksB ops o = true) (hlow : lowB ops = true) (hSn : S.Nodup) (hcov : ∀ i, i < ops.length → i ∈ S) (hSlt : ∀ i ∈ S, i < ops.length) (tb : Nat) (hheavy : ∀ t i o, tb ≤ t → S[t]? = some i → ops[i]? = some o → lightB P o = false → aftOk ops (S.drop (t + 1)) [i] = true)
    (hsz : ∀ d ∈ dsts ops, d < a0.tmps.size)
    (hQn : ∀ e' a' w', kn e' w' → e'.fits a'.tmps → SameOff (dsts ops) a0.tmps a'.tmps → a'.defers = a0.defers → Q .normal a' w')
    (hQp : ∀ ch a' w', kp ch w' → a'.defers = a0.defers → Q (.panic ch) a' w') :
    ∀ (f : Nat) (listed : Array Bool) (a : Act) (w : World) (e : Env) (t : Nat), SInv P ops S t a0 e listed a w → tb ≤ t → t ≤ S.length → vcSeq P ops kn kp (S.drop t) (S.take t).reverse e w → unl listed = f →
      wpAnyIn (FW ro) 0 P .any ops.toArray Q f listed a w := by
  intro f
  induction f with
  | zero =>
    intro listed a w e0 t0 inv0 htb ht0 h0 hu
    obtain ⟨t, e, inv, htt, ht, h, hend⟩ := seq_adv hnd hSn _ t0 e0 rfl ht0 inv0 h0
    have hall : ∀ i, i < ops.length → listed.getD i true = true := fun i hi => by
      cases hq : listed.getD i true with
      | true => rfl
      | false => have := unl_set hq; omega
    have hlen : t = S.length := by
      rcases hend with h | ⟨i, o, hi, ho, _⟩
      · exact h
      · have h1 := inv.rest t i hi (Nat.le_refl _)
        rw [hall _ (hSlt _ (List.mem_of_getElem? hi))] at h1; cases h1
    rw [List.drop_eq_nil_of_le (by omega)] at h
    refine ⟨?_, hQn e a w h ?_ inv.same inv.defers⟩
    · cases hr : Region.ready .any ops.toArray listed with
      | nil => rfl
      | cons x xs =>
        exfalso
        have hx : x ∈ Region.ready .any ops.toArray listed := by rw [hr]; simp
        obtain ⟨hun, o, ho, _⟩ := mem_ready.1 hx
        have hlt : x < ops.length := by
          have := (Array.getElem?_eq_some_iff.1 ho).1
          simpa using this
        rw [hall x hlt] at hun; cases hun
    · intro n v hn
      rcases inv.frame n v hn with h | ⟨i, o, ho, hd, hun⟩
      · exact h
      · rw [hall i (List.getElem?_eq_some_iff.1 ho).1] at hun; cases hun
  | succ f ih =>
    intro listed a w e0 t0 inv0 htb ht0 h0 hu
    obtain ⟨t, e, inv, htt, ht, h, hend⟩ := seq_adv hnd hSn _ t0 e0 rfl ht0 inv0 h0
    have hsome : ∃ i, i < ops.length ∧ listed.getD i true = false := by
      have hpos : 0 < listed.toList.countP (fun b => !b) := by unfold unl at hu; omega
      obtain ⟨b, hb, hbf⟩ := List.countP_pos_iff.1 hpos
      have hbf' : b = false := by simpa using hbf
      subst hbf'
      obtain ⟨i, hi⟩ := List.getElem?_of_mem hb
      have hlt : i < listed.size := by have := (List.getElem?_eq_some_iff.1 hi).1; simpa using this
      have hv : listed[i] = false := by
        have := (List.getElem?_eq_some_iff.1 hi).2
        simpa using this
      exact ⟨i, by rw [← inv.size]; exact hlt, by simp [hlt, hv]⟩
    obtain ⟨i0, hi0, hun0⟩ := hsome
    refine ⟨fun h0 => absurd h0 (ready_of_unlisted hlow inv.size _ i0 (Nat.le_refl _) hi0 hun0), fun i hi => ?_⟩
    have hun := (mem_ready.1 hi).1
    have hil : i < ops.length := by
      obtain ⟨_, o, ho, _⟩ := mem_ready.1 hi
      have ho' : ops[i]? = some o := by simpa using ho
      exact (List.getElem?_eq_some_iff.1 ho').1
    have hu' : unl (listed.setIfInBounds i true) = f := by have := unl_set hun; omega
    obtain ⟨k, hkS⟩ := List.getElem?_of_mem (hcov i hil)
    refine seq_one (R := fun e w => vcSeq P ops kn kp (S.drop (k + 1)) (S.take (k + 1)).reverse e w) hnd hlook hSn hsz hQp inv hi hkS (fun hkt a' inv' => ih _ _ _ e t inv' (by omega) ht h hu') (fun hkt => ?_) fun hkt e' a' w' inv' hr => ih _ _ _ e' (k + 1) inv' (by omega) (List.getElem?_eq_some_iff.1 hkS).1 hr hu'
    · obtain ⟨hit, o, hoh, hlh⟩ := seq_pos hend inv (fun i' o h1 h2 h3 => hheavy t i' o (by omega) h1 h2 h3) hi hkS (Nat.not_lt.1 hkt)
      subst hit
      refine ⟨rfl, o, hoh, hlh, ?_⟩
      rw [drop_at hkS] at h
      unfold vcSeq at h
      rw [hoh] at h
      rw [pre_succ hkS]
      exact h
end
theorem vcSeqT_sound {ro : Option Nat} {P : Program} {S : List Nat} {ops : List Oper} {id : Nat} {kn : Env → World → Prop} {kp : List PanicEntry → World → Prop} {Q : Exit → Act → World → Prop} {a : Act} {w : World} {e : Env}
    (hm : P.follows .mixedOrders = true)
    (hQn : ∀ e' a' w', kn e' w' → e'.fits a'.tmps → SameOff (dsts ops) a.tmps a'.tmps → a'.defers = a.defers → Q .normal a' w')
    (hQp : ∀ ch a' w', kp ch w' → a'.defers = a.defers → Q (.panic ch) a' w') (hL : ∀ d ∈ dsts ops, d < a.tmps.size)
    (h : vcSeqT P S ops e w kn kp) (hf : e.fits a.tmps) : (Code.region id ops.toArray true).wpIn (FW ro) 0 P Q a w := by
  unfold vcSeqT at h
  split at h
  · exact h.elim
  · rename_i hok
    unfold seqOk at hok
    simp only [Bool.and_eq_true] at hok
    obtain ⟨⟨⟨⟨⟨⟨hlook, hnd⟩, hlow⟩, hSn⟩, hcov⟩, hSlt⟩, hheavy⟩ := hok
    have hnd' := nodupB_spec _ hnd
    have hlook' : ∀ o ∈ ops, looksB ops o = true := fun o ho => List.all_eq_true.1 hlook o ho
    have hno : ∀ d ∈ dsts ops, (e.drop (dsts ops)).get d = none := fun d hd => by
      rw [get_drop, if_pos]; rw [memB_iff]; exact hd
    have hf0 : (e.drop (dsts ops)).fits a.tmps := fits_drop hf _
    have hfalse : ∀ (i : Nat) (b : Bool), (Array.replicate ops.toArray.size false).getD i b = true → ¬ i < ops.length ∧ b = true := fun i b hb => by
      by_cases hlt : i < ops.length
      · simp [hlt] at hb
      · refine ⟨hlt, ?_⟩
        simp [hlt] at hb; exact hb
    refine wpIn_region_any hm ?_
    have hrest : ∀ (k i : Nat), S[k]? = some i → 0 ≤ k → (Array.replicate ops.toArray.size false).getD i true = false := fun k i hk _ => by
      have hlt : i < ops.length := by
        have := List.all_eq_true.1 hSlt i (List.mem_of_getElem? hk)
        simpa using this
      simp [hlt]
    refine seq_any (t := 0) (e := e.drop (dsts ops)) hnd' hlook' hlow (nodupB_spec _ hSn) (fun i hi => (memB_iff _ _).1 (List.all_eq_true.1 hcov i (List.mem_range.2 hi))) (fun i hi => by
      have := List.all_eq_true.1 hSlt i hi
      simpa using this) 0 (fun t i o _ => heavy_spec S hheavy t i o) hL hQn hQp _ _ a { w with drawn := w.drawn + 1 } ⟨by simp, fun j oj _ hl => ?_, fun k i o _ hk => absurd hk (by omega), hrest, rfl, SameOff.refl _ _, fun n v hn => .inl (hf0 n v hn), fun k i o d _ _ ho hd => hno d (mem_dsts hd (List.mem_of_getElem? ho)), fun k i o _ hk => absurd hk (by omega)⟩ (Nat.zero_le _) (Nat.zero_le _) (h _ (Below.refl _ w).drew) ?_
    · have := (hfalse _ _ hl).2; cases this
    · unfold unl
      have : (Array.replicate ops.toArray.size false).toList = List.replicate ops.toArray.size false := by simp
      rw [this]
      have hc : ∀ n : Nat, (List.replicate n false).countP (fun b => !b) = n := fun n => by
        induction n with
        | zero => rfl
        | succ n ih => simp [List.replicate_succ, ih]
      rw [hc]
end Go.Vc
