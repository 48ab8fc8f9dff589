/- A region that writes a slot which it has read before: what is read is what stood there. -/
import Derived.Test.YtmhmlneobbgadaaGreatDoorVcFc
namespace Go.Vc
open Go Go.RowKit

section
variable {P : Program} {ops : List Oper} {e0 : Env}
theorem old_get (i : Nat) : (oldOps e0 ops)[i]? = (ops[i]?).map fun o => oldOne e0 ops o i := by
  unfold oldOps
  rw [List.getElem?_map, List.getElem?_zipIdx]
  cases ops[i]? <;> simp
theorem old_len : (oldOps e0 ops).length = ops.length := by unfold oldOps; simp
/-- What is the same. -/
theorem old_same (o : Oper) (i : Nat) : (oldOne e0 ops o i).dst = o.dst ∧ (oldOne e0 ops o i).guard = o.guard ∧ (oldOne e0 ops o i).after = o.after := by
  unfold oldOne
  split
  · exact ⟨rfl, rfl, rfl⟩
  · split
    · split <;> exact ⟨rfl, rfl, rfl⟩
    · split <;> exact ⟨rfl, rfl, rfl⟩
    · exact ⟨rfl, rfl, rfl⟩
theorem dsts_map (f : Oper × Nat → Oper) : ∀ (l : List Oper) (j : Nat), (∀ o i, (f (o, i)).dst = o.dst) → dsts ((l.zipIdx j).map f) = dsts l
  | [], _, _ => rfl
  | o :: r, j, h => by
    rw [List.zipIdx_cons, List.map_cons]
    simp only [dsts]
    rw [h o j, dsts_map f r (j + 1) h]
theorem old_dsts : dsts (oldOps e0 ops) = dsts ops := dsts_map _ ops 0 fun o i => (old_same o i).1
/-- An operation that is turned reads a slot that whoever writes it waits for it to be read. -/
theorem old_turned (o : Oper) (i : Nat) : oldOne e0 ops o i = o ∨ ∃ d v, (o.op = .move (.tmp d) ∨ o.op = .assign (.tmp d)) ∧ (oldOne e0 ops o i).op = .move (.const v) ∧ e0.get d = some v ∧ o.guard = none ∧ ∀ (j : Nat) (p : Oper), ops[j]? = some p → p.dst = some d → onB p i = true := by
  have key : ∀ d v, oldV e0 ops d i = some v → e0.get d = some v ∧ ∀ (j : Nat) (p : Oper), ops[j]? = some p → p.dst = some d → onB p i = true := fun d v h => by
    unfold oldV at h
    split at h
    · cases h
    · rename_i u hu
      split at h
      · rename_i hall
        cases h
        refine ⟨hu, fun j p hj hd => ?_⟩
        have := List.all_eq_true.1 hall p (List.mem_of_getElem? hj)
        rw [hd] at this
        simp only at this
        rw [Nat.beq_refl] at this
        exact this
      · cases h
  unfold oldOne
  split
  · exact .inl rfl
  · rename_i hg
    split
    · rename_i d ho
      split
      · rename_i v hv; exact .inr ⟨d, v, .inl ho, rfl, (key d v hv).1, hg, (key d v hv).2⟩
      · exact .inl rfl
    · rename_i d ho
      split
      · rename_i v hv; exact .inr ⟨d, v, .inr ho, rfl, (key d v hv).1, hg, (key d v hv).2⟩
      · exact .inl rfl
    · exact .inl rfl
/-- A run is enough from the states that the operation can lead to. -/
theorem wpIn_monoP {F : Fence} {n : Nat} {o : Oper} {a : Act} {w : World} {K K' : Act → World → Prop} {Q : Exit → Act → World → Prop} (h : ∀ a' w, (∃ v, a'.tmps = (a.put o.dst v).tmps) → K a' w → K' a' w)
    (hh : o.wpIn F n P a w K Q) : o.wpIn F n P a w K' Q := by
  have put_tmps : ∀ (b : Act) v, b.tmps = a.tmps → (b.put o.dst v).tmps = (a.put o.dst v).tmps := fun b v hb => by
    cases o.dst with
    | none => exact hb
    | some d => simp only [Act.put]; rw [hb]
  unfold Oper.wpIn at *
  refine ⟨hh.1, ?_⟩
  have hh := hh.2
  generalize (o.semAt F.round a.eval).run P w = r at *
  cases r with
  | ok x w' =>
    cases x <;> simp only [Oper.uponIn] at hh ⊢ <;>
      first
        | exact h _ _ ⟨_, put_tmps _ _ rfl⟩ hh
        | exact ⟨hh.1, CallsIn.mono hh.2 (fun e w'' he => by cases e <;> first | exact h _ _ ⟨_, put_tmps _ _ rfl⟩ he | exact he)⟩
        | exact ⟨hh.1, RowsIn.mono hh.2 (fun _ _ he => h _ _ ⟨_, put_tmps _ _ rfl⟩ he)⟩
        | exact ⟨hh.1, RoundIn.mono hh.2 (fun e w'' he => by cases e <;> first | exact h _ _ ⟨_, put_tmps _ _ rfl⟩ he | exact he)⟩
  | halt x w' => cases x <;> simp only [Oper.uponIn] at hh ⊢ <;> exact hh
theorem ready_old (listed : Array Bool) (i : Nat) : i ∈ Region.ready .any (oldOps e0 ops).toArray listed ↔ i ∈ Region.ready .any ops.toArray listed := by
  rw [mem_ready, mem_ready]
  simp only [List.getElem?_toArray, old_get]
  refine and_congr Iff.rfl ⟨?_, ?_⟩
  · rintro ⟨o, ho, h⟩
    cases hi : ops[i]? with
    | none => rw [hi] at ho; cases ho
    | some p => rw [hi] at ho; cases ho; rw [(old_same p i).2.2] at h; exact ⟨p, rfl, h⟩
  · rintro ⟨o, ho, h⟩
    rw [ho]
    exact ⟨_, rfl, by rw [(old_same o i).2.2]; exact h⟩
theorem yielded_old (tmps : Array Value) : yielded (oldOps e0 ops).toArray tmps = yielded ops.toArray tmps := by
  funext j
  unfold yielded
  simp only [List.getElem?_toArray, old_get]
  cases hj : ops[j]? with
  | none => rfl
  | some o => simp only [Option.map_some, Option.bind_some, (old_same o j).1]
theorem old_any {ro : Option Nat} {Q : Exit → Act → World → Prop} : ∀ (f : Nat) (listed : Array Bool) (a : Act) (w : World), listed.size = ops.length →
    (∀ j oj, ops[j]? = some oj → listed.getD j false = true → ∀ x ∈ oj.after, Region.binds .any x = true → listed.getD x.on false = true) →
    (∀ d v, e0.get d = some v → (∀ (i : Nat) (o : Oper), ops[i]? = some o → o.dst = some d → listed.getD i true = false) → a.tmps[d]? = some v) →
    wpAnyIn (FW ro) 0 P .any (oldOps e0 ops).toArray Q f listed a w → wpAnyIn (FW ro) 0 P .any ops.toArray Q f listed a w := by
  have hnil : ∀ listed, Region.ready .any ops.toArray listed = [] ↔ Region.ready .any (oldOps e0 ops).toArray listed = [] := fun listed => by
    rw [List.eq_nil_iff_forall_not_mem, List.eq_nil_iff_forall_not_mem]
    exact forall_congr' fun i => not_congr (ready_old listed i).symm
  intro f
  induction f with
  | zero => intro listed a w _ _ _ h; exact ⟨(hnil listed).2 h.1, h.2⟩
  | succ f ih =>
    intro listed a w hsz hcl hinv h
    refine ⟨fun hr => h.1 ((hnil listed).1 hr), fun i hi => ?_⟩
    have hop := h.2 i ((ready_old listed i).2 hi)
    obtain ⟨hun, o, ho, hready⟩ := mem_ready.1 hi
    have ho' : ops[i]? = some o := by simpa using ho
    have hil : i < ops.length := (List.getElem?_eq_some_iff.1 ho').1
    have setun : ∀ j, (listed.setIfInBounds i true).getD j true = false → j ≠ i ∧ listed.getD j true = false := by
      intro j hj
      by_cases hij : i = j
      · subst hij
        have : i < listed.size := by rw [hsz]; exact hil
        simp [this] at hj
      · rw [getD_set_ne true hij] at hj; exact ⟨fun h => hij h.symm, hj⟩
    have hcl' : ∀ j oj, ops[j]? = some oj → (listed.setIfInBounds i true).getD j false = true → ∀ x ∈ oj.after, Region.binds .any x = true → (listed.setIfInBounds i true).getD x.on false = true := by
      intro j oj hj hlj x hx hxb
      by_cases hji : i = j
      · subst hji
        rw [ho'] at hj; cases hj
        exact getD_set_true (hready x hx hxb)
      · rw [getD_set_ne false hji] at hlj
        exact getD_set_true (hcl j oj hj hlj x hx hxb)
    have next : ∀ (a' : Act) (w' : World), (∃ v, a'.tmps = (a.put o.dst v).tmps) → wpAnyIn (FW ro) 0 P .any (oldOps e0 ops).toArray Q f (listed.setIfInBounds i true) a' w' → wpAnyIn (FW ro) 0 P .any ops.toArray Q f (listed.setIfInBounds i true) a' w' := by
      rintro a' w' ⟨v, ha'⟩ hk
      refine ih _ a' w' (by simpa using hsz) hcl' (fun d u hd hw => ?_) hk
      have hne : ∀ x, o.dst = some x → x ≠ d := fun x hx e => by
        subst e
        exact (setun i (hw i o ho' hx)).1 rfl
      rw [ha']
      have : (a.put o.dst v).tmps[d]? = a.tmps[d]? := by
        cases hod : o.dst with
        | none => rfl
        | some x => simp only [Act.put]; rw [Array.getElem?_setIfInBounds_ne (hne x hod)]
      rw [this]
      exact hinv d u hd fun j p hj hp => (setun j (hw j p hj hp)).2
    unfold wpOpIn at hop ⊢
    rw [ho]
    rw [List.getElem?_toArray, old_get, ho', yielded_old] at hop
    simp only [Option.map_some] at hop
    simp only
    have hwant : Region.wanted (oldOne e0 ops o i) (yielded ops.toArray a.tmps) = Region.wanted o (yielded ops.toArray a.tmps) := by
      unfold Region.wanted; rw [(old_same o i).2.1]
    rw [hwant] at hop
    rcases old_turned (e0 := e0) (ops := ops) o i with he | ⟨d, v, hmv, hop', hd, hg, hwr⟩
    · rw [he] at hop
      split
      · rename_i hw; rw [if_pos hw] at hop; exact wpIn_monoP next hop
      · rename_i hw; rw [if_neg hw] at hop; exact ⟨hop.1, next _ _ ⟨_, rfl⟩ hop.2⟩
    · have hw : Region.wanted o (yielded ops.toArray a.tmps) = true := by unfold Region.wanted; rw [hg]
      rw [if_pos hw] at hop ⊢
      have hav : a.tmps[d]? = some v := hinv d v hd fun j p hj hp => by
        cases hq : listed.getD j true with
        | false => rfl
        | true =>
          have hjl : j < ops.length := (List.getElem?_eq_some_iff.1 hj).1
          have hq' : listed.getD j false = true := by
            have hjs : j < listed.size := by rw [hsz]; exact hjl
            simp [hjs] at hq ⊢; exact hq
          obtain ⟨x, hx, hxb, hxo⟩ := onB_spec (hwr j p hj hp)
          have := hcl j p hj hq' x hx hxb
          rw [hxo] at this
          exact (getD_tf hun this).elim
      have hev : a.eval (.tmp d) = v := by simp [Act.eval, hav]
      have hsel : isSelect o.op = false := by rcases hmv with e | e <;> rw [e] <;> rfl
      have hsel' : isSelect (oldOne e0 ops o i).op = false := by rw [hop']; rfl
      have hrun : (execOp a.eval o).run P w = .ok (.value v) w := by
        unfold execOp
        rcases hmv with e | e <;> rw [e] <;> simp [hev]
      have hrun' : (execOp a.eval (oldOne e0 ops o i)).run P w = .ok (.value v) w := by
        unfold execOp
        rw [hop']; simp [Act.eval]
      have hk := hop.2
      rw [Oper.semAt_eq _ _ _ (not_defer hsel'), hrun'] at hk
      simp only [Oper.uponIn] at hk
      rw [(old_same o i).1] at hk
      exact wp_of_run hsel hrun (next _ _ ⟨_, rfl⟩ hk)
end
theorem vcSeqO_sound {ro : Option Nat} {P : Program} {S : List Nat} {ops : List Oper} {id : Nat} {kn : Env → World → Prop} {kp : List PanicEntry → World → Prop} {Q : Exit → Act → World → Prop} {a : Act} {w : World} {e : Env}
    (hm : P.follows .mixedOrders = true)
    (hQn : ∀ e' a' w', kn e' w' → e'.fits a'.tmps → SameOff (dsts ops) a.tmps a'.tmps → a'.defers = a.defers → Q .normal a' w')
    (hQp : ∀ ch a' w', kp ch w' → a'.defers = a.defers → Q (.panic ch) a' w') (hL : ∀ d ∈ dsts ops, d < a.tmps.size)
    (h : vcSeqT P S (oldOps e ops) e w kn kp) (hf : e.fits a.tmps) : (Code.region id ops.toArray true).wpIn (FW ro) 0 P Q a w := by
  have hQn' : ∀ e' a' w', kn e' w' → e'.fits a'.tmps → SameOff (dsts (oldOps e ops)) a.tmps a'.tmps → a'.defers = a.defers → Q .normal a' w' := by rw [old_dsts]; exact hQn
  have hL' : ∀ d ∈ dsts (oldOps e ops), d < a.tmps.size := by rw [old_dsts]; exact hL
  have hlen : (oldOps e ops).length = ops.length := old_len
  unfold vcSeqT at h
  split at h
  · exact h.elim
  · rename_i hok
    unfold seqOk at hok
    simp only [Bool.and_eq_true] at hok
    obtain ⟨⟨⟨⟨⟨⟨hlook, hnd⟩, hlow⟩, hSn⟩, hcov⟩, hSlt⟩, hheavy⟩ := hok
    have hnd' := nodupB_spec _ hnd
    have hlook' : ∀ o ∈ oldOps e ops, looksB (oldOps e ops) o = true := fun o ho => List.all_eq_true.1 hlook o ho
    have hno : ∀ d ∈ dsts (oldOps e ops), (e.drop (dsts (oldOps e ops))).get d = none := fun d hd => by
      rw [get_drop, if_pos]; rw [memB_iff]; exact hd
    have hf0 : (e.drop (dsts (oldOps e ops))).fits a.tmps := fits_drop hf _
    have hfalse : ∀ (i : Nat) (b : Bool), (Array.replicate ops.toArray.size false).getD i b = true → ¬ i < ops.length ∧ b = true := fun i b hb => by
      by_cases hlt : i < ops.length
      · simp [hlt] at hb
      · refine ⟨hlt, ?_⟩
        simp [hlt] at hb; exact hb
    refine wpIn_region_any hm ?_
    have hrest : ∀ (k i : Nat), S[k]? = some i → 0 ≤ k → (Array.replicate ops.toArray.size false).getD i true = false := fun k i hk _ => by
      have hlt : i < ops.length := by
        have := List.all_eq_true.1 hSlt i (List.mem_of_getElem? hk)
        rw [hlen] at this
        simpa using this
      simp [hlt]
    have hfalse' : ∀ (i : Nat) (b : Bool), (Array.replicate ops.toArray.size false).getD i b = true → ¬ i < (oldOps e ops).length ∧ b = true := fun i b hb => by rw [hlen]; exact hfalse i b hb
    refine old_any (e0 := e) _ _ _ _ (by simp) (fun j oj _ hl => by have := (hfalse _ _ hl).2; cases this) (fun d v hd _ => hf d v hd) ?_
    refine seq_any (t := 0) (e := e.drop (dsts (oldOps e ops))) hnd' hlook' hlow (nodupB_spec _ hSn) (fun i hi => (memB_iff _ _).1 (List.all_eq_true.1 hcov i (List.mem_range.2 hi))) (fun i hi => by
      have := List.all_eq_true.1 hSlt i hi
      simpa using this) 0 (fun t i o _ => heavy_spec S hheavy t i o) hL' hQn' hQp _ _ a { w with drawn := w.drawn + 1 } ⟨by simp [hlen], fun j oj _ hl => ?_, fun k i o _ hk => absurd hk (by omega), hrest, rfl, SameOff.refl _ _, fun n v hn => .inl (hf0 n v hn), fun k i o d _ _ ho hd => hno d (mem_dsts hd (List.mem_of_getElem? ho)), fun k i o _ hk => absurd hk (by omega)⟩ (Nat.zero_le _) (Nat.zero_le _) (h _ (Below.refl _ w).drew) ?_
    · have := (hfalse _ _ hl).2; cases this
    · unfold unl
      have : (Array.replicate ops.toArray.size false).toList = List.replicate ops.toArray.size false := by simp
      rw [this]
      have hc : ∀ n : Nat, (List.replicate n false).countP (fun b => !b) = n := fun n => by
        induction n with
        | zero => rfl
        | succ n ih => simp [List.replicate_succ, ih]
      rw [hc]
end Go.Vc
