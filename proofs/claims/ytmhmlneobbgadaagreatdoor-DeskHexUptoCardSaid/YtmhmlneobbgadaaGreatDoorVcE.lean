/- The verification condition is enough: environments, regions in the order of the text. -/
import Derived.Test.YtmhmlneobbgadaaGreatDoorVcD
namespace Go.Vc
open Go Go.RowKit

theorem get_cons (m : Nat) (v : Value) (e : Env) (n : Nat) : Env.get ((m, v) :: e) n = if m = n then some v else Env.get e n := by
  simp only [Env.get]
  by_cases h : m = n
  · subst h
    have : Nat.beq m m = true := Nat.beq_refl m
    rw [this]; simp
  · have : Nat.beq m n = false := by
      cases hb : Nat.beq m n with
      | false => rfl
      | true => exact absurd (Nat.eq_of_beq_eq_true hb) h
    rw [this]; simp [h]
theorem memB_iff (l : List Nat) (n : Nat) : memB l n = true ↔ n ∈ l := by
  induction l with
  | nil => simp [memB]
  | cons m r ih =>
    simp only [memB]
    by_cases h : m = n
    · subst h
      have : Nat.beq m m = true := Nat.beq_refl m
      rw [this]; simp
    · have : Nat.beq m n = false := by
        cases hb : Nat.beq m n with
        | false => rfl
        | true => exact absurd (Nat.eq_of_beq_eq_true hb) h
      rw [this]; simp only [ih, List.mem_cons]
      exact ⟨fun hm => .inr hm, fun hm => hm.resolve_left (Ne.symm h)⟩
theorem memB_false (l : List Nat) (n : Nat) : memB l n = false ↔ n ∉ l := by
  rw [← memB_iff]; simp
theorem get_drop (e : Env) (l : List Nat) (n : Nat) : (e.drop l).get n = if memB l n then none else e.get n := by
  induction e with
  | nil => simp [Env.drop, Env.get]
  | cons x r ih =>
    obtain ⟨m, v⟩ := x
    simp only [Env.drop]
    split
    · rename_i hm
      rw [ih, get_cons]
      by_cases h : m = n
      · subst h; simp [hm]
      · simp [h]
    · rename_i hm
      rw [get_cons, get_cons, ih]
      by_cases h : m = n
      · subst h; simp [hm]
      · simp [h]
theorem get_append (e f : Env) (n : Nat) : (e ++ f).get n = match e.get n with | some v => some v | none => f.get n := by
  induction e with
  | nil => rfl
  | cons x r ih =>
    obtain ⟨m, v⟩ := x
    rw [List.cons_append, get_cons, get_cons, ih]
    by_cases h : m = n <;> simp [h]
theorem fits_drop {e : Env} {a : Array Value} (h : e.fits a) (l : List Nat) : (e.drop l).fits a := fun n v hn => by
  rw [get_drop] at hn
  split at hn
  · cases hn
  · exact h n v hn
theorem fits_put {e : Env} {a : Array Value} (h : e.fits a) {d : Option Nat} (v : Value) (hd : ∀ x, d = some x → x < a.size) : (e.put d v).fits (match d with | some d => a.setIfInBounds d v | none => a) := by
  cases d with
  | none => exact h
  | some d =>
    intro n u hn
    simp only [Env.put, get_cons] at hn
    split at hn
    · rename_i he; subst he; cases hn
      rw [Array.getElem?_setIfInBounds_self_of_lt (hd _ rfl)]
    · rename_i he
      rw [Array.getElem?_setIfInBounds_ne he]
      exact h n u hn
theorem fits_act {e : Env} {a : Act} (h : e.fits a.tmps) {d : Option Nat} (v : Value) (hd : ∀ x, d = some x → x < a.tmps.size) : (e.put d v).fits (a.put d v).tmps := by
  have := fits_put h v hd
  cases d <;> exact this
theorem SameOff.refl (l : List Nat) (a : Array Value) : SameOff l a a := ⟨rfl, fun _ _ => rfl⟩
theorem SameOff.trans {l : List Nat} {a b c : Array Value} (h : SameOff l a b) (k : SameOff l b c) : SameOff l a c := ⟨k.1.trans h.1, fun n hn => (k.2 n hn).trans (h.2 n hn)⟩
theorem SameOff.mono {l m : List Nat} {a b : Array Value} (h : SameOff l a b) (hs : ∀ n ∈ l, n ∈ m) : SameOff m a b :=
  ⟨h.1, fun n hn => h.2 n (by rw [memB_false] at *; exact fun hl => hn (hs n hl))⟩
theorem SameOff.put {l : List Nat} (a : Act) {d : Option Nat} (v : Value) (hd : ∀ x, d = some x → x ∈ l) : SameOff l a.tmps (a.put d v).tmps := by
  cases d with
  | none => exact SameOff.refl _ _
  | some d =>
    refine ⟨by simp [Act.put], fun n hn => ?_⟩
    have : d ≠ n := fun h => by
      subst h
      rw [memB_false] at hn
      exact hn (hd _ rfl)
    simp [Act.put, Array.getElem?_setIfInBounds_ne this]
theorem put_size (a : Act) (d : Option Nat) (v : Value) : (a.put d v).tmps.size = a.tmps.size := by cases d <;> simp [Act.put]
theorem put_defers (a : Act) (d : Option Nat) (v : Value) : (a.put d v).defers = a.defers := by cases d <;> rfl
theorem rho_agree {e : Env} {a : Act} (hf : e.fits a.tmps) : ∀ (l : List Operand), knownL e l = true → ∀ x ∈ l, rho e x = a.eval x
  | [], _, x, hx => by cases hx
  | y :: r, h, x, hx => by
    simp only [knownL] at h
    split at h
    · rename_i v hv
      cases hx with
      | head =>
        unfold rho
        rw [hv]
        cases y with
        | tmp t =>
          have := hf t v hv
          simp [Act.eval, this]
        | const u => cases hv; rfl
        | global g => cases hv; rfl
        | func f => cases hv; rfl
      | tail _ hx => exact rho_agree hf r h x hx
    · cases h
theorem not_select {op : Op} (h : isSelect op = false) : ∀ cs b, op ≠ .select cs b := fun cs b he => by subst he; cases h
theorem vOp_yield {P : Program} {e : Env} {o : Oper} {w : World} {k : Value → World → Prop} {kp : List PanicEntry → World → Prop} (h : vOp P e o w k kp) :
    isSelect o.op = false ∧ knownL e o.op.operands.toList = true ∧ Yield P (execOp (rho e) o) w k kp := by
  unfold vOp at h
  split at h
  · exact h.elim
  · rename_i hs
    split at h
    · exact h.elim
    · rename_i hk
      refine ⟨hs, hk, ?_⟩
      split at h
      · obtain ⟨v, hv, hk⟩ := vPure_run h
        rw [Yield_iff]; unfold YieldR; rw [hv w]; exact hk
      · obtain ⟨v, hv, hk⟩ := vRead_run h
        rw [Yield_iff]; unfold YieldR; rw [hv w (Below.refl _ _)]; exact hk
      · exact vEff_yield h
/-- Every machine; the frame is that of a round of the loop ro, or none. -/
def FW (ro : Option Nat) : Fence := { fn := fun _ => True, depth := none, alive := false, round := ro }
theorem calls_FW {ro : Option Nat} {P : Program} {f : FuncId} {args : Array Value} {w : World} {R : Ending → World → Prop} (h : Calls P f args w R) : CallsIn (FW ro) 0 P f args w R :=
  (callsIn_wide.2 h : CallsIn Fence.wide 0 P f args w R)
theorem round_FW {ro : Option Nat} {P : Program} {l : Nat} {f : FuncId} {tmps : Array Value} {x y : Code} {w : World} {R : Ending → World → Prop} (h : RoundIn Fence.wide 0 P l f tmps x y w R) : RoundIn (FW ro) 0 P l f tmps x y w R := h
theorem not_defer {op : Op} (h : isSelect op = false) : ∀ c, op ≠ .defer c := fun c hc => by subst hc; cases h
theorem wp_of_yield {ro : Option Nat} {P : Program} {o : Oper} {a : Act} {w : World} {k : Value → World → Prop} {kp : List PanicEntry → World → Prop} {next : Act → World → Prop} {Q : Exit → Act → World → Prop}
    (hs : isSelect o.op = false) (h : Yield P (execOp a.eval o) w k kp) (hn : ∀ v w', k v w' → next (a.put o.dst v) w') (hp : ∀ ch w', kp ch w' → Q (.panic ch) a w') : o.wpIn (FW ro) 0 P a w next Q := by
  rw [Yield_iff] at h; unfold YieldR at h
  refine ⟨fun _ _ => trivial, ?_⟩
  rw [Oper.semAt_eq _ _ _ (not_defer hs)]
  generalize (execOp a.eval o).run P w = r at *
  cases r with
  | ok n w' =>
    cases n <;> simp only at h <;> simp only [Oper.uponIn]
    · exact hn _ _ h
    · exact hn _ _ h
    · exact ⟨fun h => (by cases h), calls_FW (Calls.mono h fun e w'' he => by
        cases e with
        | returned v => exact hn _ _ he
        | panicked ch => exact hp _ _ he
        | outgrown => exact he.elim)⟩
    · exact ⟨fun h => (by cases h), round_FW (RoundIn.mono h fun e w'' he => by
        cases e with
        | returned v => exact hn _ _ he
        | panicked ch => exact hp _ _ he
        | outgrown => exact he.elim)⟩
  | halt x w' => cases x <;> simp only at h <;> simp only [Oper.uponIn]; exact hp _ _ h
theorem vOp_wp {ro : Option Nat} {P : Program} {e : Env} {o : Oper} {a : Act} {w : World} {k : Value → World → Prop} {kp : List PanicEntry → World → Prop} {next : Act → World → Prop} {Q : Exit → Act → World → Prop}
    (h : vOp P e o w k kp) (hf : e.fits a.tmps) (hn : ∀ v w', k v w' → next (a.put o.dst v) w') (hp : ∀ ch w', kp ch w' → Q (.panic ch) a w') : o.wpIn (FW ro) 0 P a w next Q := by
  obtain ⟨hs, hk, hy⟩ := vOp_yield h
  refine wp_of_yield hs ?_ hn hp
  rwa [← execOp_congr o (not_select hs) (fun x hx => rho_agree hf _ hk x (by simpa using hx))]
theorem mem_dsts {o : Oper} {d : Nat} (hd : o.dst = some d) : ∀ {l : List Oper}, o ∈ l → d ∈ dsts l
  | [], h => by cases h
  | x :: r, h => by
    simp only [dsts]
    cases h with
    | head => rw [hd]; simp
    | tail _ h =>
      have := mem_dsts hd h
      split <;> simp [this]
theorem yielded_guard {ops : List Oper} {e : Env} {a : Act} {j : Nat} {v : Value} (hf : e.fits a.tmps) (h : guardVal ops e j = some v) :
    yielded ops.toArray a.tmps j = match v with | .bool b => some b | _ => none := by
  unfold guardVal at h
  split at h
  · rename_i oj hj
    split at h
    · rename_i d hd
      have := hf d v h
      unfold yielded
      simp only [List.getElem?_toArray, hj, Option.bind_some, hd, this]
      cases v <;> rfl
    · cases h
  · cases h
theorem fits_guard {ops : List Oper} {e : Env} {a : Array Value} {j : Nat} {b : Bool} (hf : e.fits a) (h : guardVal ops e j = some (.bool b)) : (e.put (guardDst ops j) (.bool b)).fits a := by
  unfold guardVal at h
  unfold guardDst
  split at h
  · rename_i oj hj
    split at h
    · rename_i d hd
      simp only [hd]
      intro n v hn
      simp only [Env.put, get_cons] at hn
      split at hn
      · rename_i he; subst he; cases hn; exact hf _ _ h
      · exact hf n v hn
    · cases h
  · cases h
/-- A region in the order of the text. -/
theorem vcOps_sound {ro : Option Nat} {P : Program} {ops : List Oper} {kn : Env → World → Prop} {kp : List PanicEntry → World → Prop} {Q : Exit → Act → World → Prop} {a0 : Act} {L : List Nat}
    (hQn : ∀ e a w, kn e w → e.fits a.tmps → SameOff L a0.tmps a.tmps → a.defers = a0.defers → Q .normal a w)
    (hQp : ∀ ch a w, kp ch w → a.defers = a0.defers → Q (.panic ch) a w) (hL : ∀ d ∈ L, d < a0.tmps.size) :
    ∀ (l : List Oper) (e : Env) (a : Act) (w : World), (∀ d ∈ dsts l, d ∈ L) → vcOps P ops kn kp l e w → e.fits a.tmps → SameOff L a0.tmps a.tmps → a.defers = a0.defers → wpListIn (FW ro) 0 P ops.toArray Q l a w
  | [], e, a, w, _, h, hf, hso, hd => hQn e a w h hf hso hd
  | o :: r, e, a, w, hl, h, hf, hso, hd => by
    have hlr : ∀ d ∈ dsts r, d ∈ L := fun d hdd => hl d (by simp only [dsts]; split <;> simp [hdd])
    have hlo : ∀ d, o.dst = some d → d ∈ L := fun d hdd => hl d (by simp only [dsts, hdd]; simp)
    have hsz : ∀ d, o.dst = some d → d < a.tmps.size := fun d hdd => by rw [hso.1]; exact hL d (hlo d hdd)
    have go : ∀ (e' : Env), e'.fits a.tmps → vOp P e' o w (fun v w => vcOps P ops kn kp r (e'.put o.dst v) w) kp → o.wpIn (FW ro) 0 P a w (wpListIn (FW ro) 0 P ops.toArray Q r) Q := fun e' hf' h =>
      vOp_wp h hf' (fun v w' hk => vcOps_sound hQn hQp hL r _ _ _ hlr hk (fits_act hf' v hsz) (hso.trans (SameOff.put a v hlo)) (by rw [put_defers]; exact hd)) (fun ch w' hk => hQp ch a w' hk hd)
    have skip : ∀ (e' : Env), e'.fits a.tmps → vcOps P ops kn kp r (e'.put o.dst undef) w → wpListIn (FW ro) 0 P ops.toArray Q r (a.put o.dst undef) w := fun e' hf' h =>
      vcOps_sound hQn hQp hL r _ _ _ hlr h (fits_act hf' undef hsz) (hso.trans (SameOff.put a undef hlo)) (by rw [put_defers]; exact hd)
    simp only [vcOps] at h
    simp only [wpListIn]
    split at h
    · rename_i hg
      have hw : Region.wanted o (yielded ops.toArray a.tmps) = true := by unfold Region.wanted; rw [hg]
      rw [if_pos hw]
      exact go e hf h
    · rename_i j want hg
      split at h
      · rename_i b hv
        have hy := yielded_guard hf hv
        simp only at hy
        have hw : Region.wanted o (yielded ops.toArray a.tmps) = (some b == some want) := by unfold Region.wanted; rw [hg]; simp [hy]
        cases b with
        | true =>
          simp only [Gd] at h
          have hf' := fits_guard hf hv
          cases want with
          | true => rw [if_pos (by rw [hw]; rfl)]; exact go _ hf' h
          | false => rw [if_neg (by rw [hw]; decide)]; exact ⟨fun _ _ => trivial, skip _ hf' h⟩
        | false =>
          simp only [Gd] at h
          have hf' := fits_guard hf hv
          cases want with
          | false => rw [if_pos (by rw [hw]; rfl)]; exact go _ hf' h
          | true => rw [if_neg (by rw [hw]; decide)]; exact ⟨fun _ _ => trivial, skip _ hf' h⟩
      · rename_i vs hv
        have hy := yielded_guard hf hv
        simp only at hy
        have hw : Region.wanted o (yielded ops.toArray a.tmps) = false := by unfold Region.wanted; rw [hg]; simp [hy]
        rw [if_neg (by rw [hw]; decide)]
        exact ⟨fun _ _ => trivial, skip e hf h⟩
      · exact h.elim
end Go.Vc
