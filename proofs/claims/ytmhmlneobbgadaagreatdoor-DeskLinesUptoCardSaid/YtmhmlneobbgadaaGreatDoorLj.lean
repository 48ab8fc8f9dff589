/- Owned things: a part by itself, and the rest unchanged; objects; rounds of ranges over functions. -/
import Derived.Test.YtmhmlneobbgadaaGreatDoorLi
namespace Go.Vc
open Go Go.RowKit
set_option linter.unusedSectionVars false

/-! ### A part by itself -/
section frame
variable {S : Nat → Prop} {W0 W W' : World} {us rs us' rs' : List Res}
/-- The blocks of these. -/
def foot (us : List Res) : Nat → Prop := fun b => ∃ (i : Nat) (r : Res), us[i]? = some r ∧ r.foot b
theorem Ow.loc (h : Ow S W0 W (us ++ rs)) : Ow (foot us) W W us :=
  ⟨Fr.refl _ _, fun i r hi => h.ok i r (by rw [List.getElem?_append_left (List.getElem?_eq_some_iff.1 hi).1]; exact hi),
   fun i r b hi hb => ⟨(h.lt i r b (by rw [List.getElem?_append_left (List.getElem?_eq_some_iff.1 hi).1]; exact hi) hb).1, .inl ⟨i, r, hi, hb⟩⟩,
   fun i j r r' b hi hj f1 f2 => h.dis i j r r' b (by rw [List.getElem?_append_left (List.getElem?_eq_some_iff.1 hi).1]; exact hi) (by rw [List.getElem?_append_left (List.getElem?_eq_some_iff.1 hj).1]; exact hj) f1 f2⟩
theorem app_at {i : Nat} {r : Res} (h : (us ++ rs)[i]? = some r) : (i < us.length ∧ us[i]? = some r) ∨ (us.length ≤ i ∧ rs[i - us.length]? = some r) := by
  rcases Nat.lt_or_ge i us.length with hi | hi
  · rw [List.getElem?_append_left hi] at h; exact .inl ⟨hi, h⟩
  · rw [List.getElem?_append_right hi] at h; exact .inr ⟨hi, h⟩
theorem at_right {i : Nat} {r : Res} (h : rs[i]? = some r) : (us ++ rs)[us.length + i]? = some r := by
  rw [List.getElem?_append_right (by omega), Nat.add_sub_cancel_left]; exact h
theorem at_left {i : Nat} {r : Res} (h : us[i]? = some r) : (us ++ rs)[i]? = some r := by
  rw [List.getElem?_append_left (List.getElem?_eq_some_iff.1 h).1]; exact h
theorem Ow.frame (h : Ow S W0 W (us ++ rs)) (k : Ow (foot us) W W' us') : Ow S W0 W' (us' ++ rs) := by
  have off : ∀ (j : Nat) (r : Res) (b : Nat), rs[j]? = some r → r.foot b → foot us b → False := fun j r b hj hb ⟨i, r', hi, hb'⟩ => by
    have := h.dis _ _ r' r b (at_left hi) (at_right hj) hb' hb
    have := (List.getElem?_eq_some_iff.1 hi).1
    omega
  have hz := k.fr.size
  have h0 := h.fr.size
  refine ⟨h.fr.trans' k.fr fun b hb hlt => ?_, fun i r hi => ?_, fun i r b hi hb => ?_, fun i j r r' b hi hj f1 f2 => ?_⟩
  · obtain ⟨i, r, hi, hf⟩ := hb
    exact (h.lt i r b (at_left hi) hf).2.resolve_right (by omega)
  · rcases app_at hi with ⟨_, hi⟩ | ⟨_, hi⟩
    · exact k.ok _ r hi
    · exact r.st k.fr (fun b hb hf => off _ r b hi hb hf) (h.ok _ r (at_right hi))
  · rcases app_at hi with ⟨_, hi⟩ | ⟨_, hi⟩
    · obtain ⟨h1, h2⟩ := k.lt _ r b hi hb
      refine ⟨h1, ?_⟩
      rcases h2 with ⟨j, r', hj, hf⟩ | h2
      · exact (h.lt j r' b (at_left hj) hf).2
      · exact .inr (by omega)
    · obtain ⟨h1, h2⟩ := h.lt _ r b (at_right hi) hb
      exact ⟨by omega, h2⟩
  · have cross : ∀ (i j : Nat) (r r' : Res), us'[i]? = some r → rs[j]? = some r' → r.foot b → r'.foot b → False := fun i j r r' hi hj f1 f2 => by
      rcases (k.lt i r b hi f1).2 with h2 | h2
      · exact off j r' b hj f2 h2
      · have := (h.lt _ r' b (at_right hj) f2).1; omega
    rcases app_at hi with ⟨hl, hi⟩ | ⟨hl, hi⟩ <;> rcases app_at hj with ⟨hl', hj⟩ | ⟨hl', hj⟩
    · exact k.dis i j r r' b hi hj f1 f2
    · exact (cross _ _ r r' hi hj f1 f2).elim
    · exact (cross _ _ r' r hj hi f2 f1).elim
    · have := h.dis _ _ r r' b (at_right hi) (at_right hj) f1 f2
      omega
theorem Ow.swap (h : Ow S W0 W (us ++ rs)) : Ow S W0 W (rs ++ us) := by
  have e : ∀ {i : Nat} {r : Res}, (rs ++ us)[i]? = some r → ∃ j, (us ++ rs)[j]? = some r ∧ j = if i < rs.length then us.length + i else i - rs.length := fun {i r} hi => by
    rcases app_at hi with ⟨hl, hi⟩ | ⟨hl, hi⟩
    · exact ⟨_, at_right hi, by rw [if_pos hl]⟩
    · exact ⟨_, at_left hi, by rw [if_neg (by omega)]⟩
  refine ⟨h.fr, fun i r hi => ?_, fun i r b hi hb => ?_, fun i j r r' b hi hj f1 f2 => ?_⟩
  · obtain ⟨j, hj, _⟩ := e hi; exact h.ok j r hj
  · obtain ⟨j, hj, _⟩ := e hi; exact h.lt j r b hj hb
  · obtain ⟨i', hi', e1⟩ := e hi
    obtain ⟨j', hj', e2⟩ := e hj
    have := h.dis i' j' r r' b hi' hj' f1 f2
    have hil : i < (rs ++ us).length := (List.getElem?_eq_some_iff.1 hi).1
    have hjl : j < (rs ++ us).length := (List.getElem?_eq_some_iff.1 hj).1
    rw [List.length_append] at hil hjl
    have hi2 : i' < (us ++ rs).length := (List.getElem?_eq_some_iff.1 hi').1
    rw [List.length_append] at hi2
    split at e1 <;> split at e2 <;> omega
theorem Ow.front (h : Ow S W0 W (us ++ rs)) : Ow S W0 W us :=
  ⟨h.fr, fun i r hi => h.ok i r (at_left hi), fun i r b hi => h.lt i r b (at_left hi), fun i j r r' b hi hj => h.dis i j r r' b (at_left hi) (at_left hj)⟩
theorem Ow.locR (h : Ow S W0 W (us ++ rs)) : Ow (foot rs) W W rs := h.swap.loc
theorem Ow.frameR (h : Ow S W0 W (us ++ rs)) (k : Ow (foot rs) W W' rs') : Ow S W0 W' (us ++ rs') := (h.swap.frame k).swap
theorem Ow.tail {r : Res} (h : Ow S W0 W (r :: rs)) : Ow S W0 W rs :=
  ⟨h.fr, fun i r' hi => h.ok (i + 1) r' (by simpa using hi), fun i r' b hi => h.lt (i + 1) r' b (by simpa using hi), fun i j r1 r2 b hi hj f1 f2 => by
    have := h.dis (i + 1) (j + 1) r1 r2 b (by simpa using hi) (by simpa using hj) f1 f2
    omega⟩
/-- A call that turns a part. -/
theorem Ow.callF {P : Program} {f : FuncId} {args : Array Value} {kp : List PanicEntry → World → Prop} {k : Value → World → Prop} {Q : Value → List Res → Prop} (h : Ow S W0 W (us ++ rs))
    (hg : Ow (foot us) W W us → Gives P f args W fun v W' => ∃ us', Q v us' ∧ Ow (foot us) W W' us') (hk : ∀ v us' W', Q v us' → Ow S W0 W' (us' ++ rs) → k v W') : CallK P f args W kp k :=
  CallK.mk (hg h.loc) fun v W' hv => by
    obtain ⟨us', hq, ho⟩ := hv
    exact hk v us' W' hq (h.frame ho)
theorem Ow.weak {i : Nat} {r : Res} (h : Ow S W0 W rs) (hi : rs[i]? = some r) (r' : Res) (ok : r.ok W → r'.ok W) (hf : ∀ b, r'.foot b → r.foot b) : Ow S W0 W (rs.set i r') :=
  h.upd hi (Fr.refl _ _) r' (ok (h.get i hi)) fun b hb => .inl (hf b hb)
theorem Ow.off {i : Nat} {r : Res} {b : Nat} (h : Ow S W0 W (us ++ rs)) (hi : rs[i]? = some r) (hb : r.foot b) : ¬ foot us b := fun ⟨j, r', hj, hf⟩ => by
  have := h.dis _ _ r' r b (at_left hj) (at_right hi) hf hb
  have := (List.getElem?_eq_some_iff.1 hj).1
  omega
theorem Ow.offOld {b : Nat} (h : Ow NoS W0 W (us ++ rs)) (hb : b < W0.heap.size) : ¬ foot us b := fun ⟨j, r', hj, hf⟩ => by
  have := (h.lt _ r' b (at_left hj) hf).2.resolve_left fun h => h
  omega
/-- Nothing owned. -/
theorem Ow.bel' (h : Ow S W0 W rs) (k : Below W.heap.size W W') : Ow S W0 W' rs := h.more k
end frame

/-! ### Objects as they are -/
section ob
variable {S : Nat → Prop} {W0 W : World} {rs : List Res}
def Res.ob (b : Nat) (o : Obj) : Res := ⟨fun x => x = b, fun W => W.heap[b]? = some o, fun hf h k => hf.at (h b rfl) k⟩
theorem Ow.setOb {b : Nat} {o : Obj} (h : Ow S W0 W rs) (i : Nat) (hi : rs[i]? = some (.ob b o)) (o' : Obj) : Ow S W0 (World.setBlk W b o') (rs.set i (.ob b o')) :=
  h.upd hi (Fr.setBlk (S := fun x => x = b) rfl W o') (.ob b o') (setBlk_same (h.get i hi : W.heap[b]? = some o)) fun _ hx => .inl hx
theorem Ow.recAt {rc : LoopRec} {L : Nat} {s : LoopState} {p : Option Code} {k : Prop} (h : Ow S W0 W rs) (i : Nat) (hi : rs[i]? = some (.ob L (rc s p))) (hk : k) : RecAt rc L s p W k := ⟨h.get i hi, hk⟩
theorem Ow.afterR {rc : LoopRec} {L : Nat} {kn kr : World → Prop} {kx : List (Nat × (World → Prop))} (h : Ow S W0 W rs) (i : Nat) (hi : rs[i]? = some (.ob L (rc .ready none))) (hk : ∀ W', Ow S W0 W' (rs.set i (.ob L (rc .exhausted none))) → kn W') : AfterR rc L W kn kr kx :=
  ⟨.ready, none, by decide, h.get i hi, .inl ⟨rfl, hk _ (h.setOb i hi _)⟩⟩
theorem Ow.rangeF {P : Program} {g : Value} {n : Nat} {round : LoopRec → Array Value → World → (Value → World → Prop) → Prop} {after : LoopRec → World → Prop} {f : FuncId} {lb rb : Array Value} (h : Ow S W0 W rs) (hg : g = .func (.func f) lb rb) (hc : callOk P f = true)
    (hk : ∀ (rc : LoopRec) (W' : World), (∀ (args : Array Value) (Wr : World) (k : Value → World → Prop), args.size = n → Wr.heap[W.heap.size + 1]? = some (rc .ready none) → round rc args Wr k → Yield P (callSem (.func (.yield (W.heap.size + 1)) #[] #[]) args) Wr k (fun _ _ => False)) →
      W'.heap.size = W.heap.size + 2 → Ow S W0 W' (.ob (W.heap.size + 1) (rc .ready none) :: .ob W.heap.size (.deferred (some [])) :: rs) → Gives P f (lb ++ #[.func (.yield (W.heap.size + 1)) #[] #[]] ++ rb) W' fun _ W'' => after rc W'') : RangeF P g n W round after := by
  refine ⟨f, lb, rb, hg, hc, fun rc hrc Y => ?_⟩
  have hsz : ((W.alloc (.deferred (some []))).alloc (rc .ready none)).heap.size = W.heap.size + 2 := by simp
  have h1 : Ow S W0 (W.alloc (.deferred (some []))) (.ob W.heap.size (.deferred (some [])) :: rs) := h.push ((Below.refl _ W).alloc (Nat.le_refl _) _) _ alloc_same fun b hb => by cases hb; exact ⟨Nat.le_refl _, by simp⟩
  have h2 := h1.push ((Below.refl _ _).alloc (Nat.le_refl _) _) (.ob (W.heap.size + 1) (rc .ready none)) (by
    show ((W.alloc (.deferred (some []))).alloc (rc .ready none)).heap[W.heap.size + 1]? = _
    have := alloc_same (W := W.alloc (.deferred (some []))) (o := rc .ready none)
    rwa [alloc_size] at this) fun b hb => by cases hb; exact ⟨by simp, by simp⟩
  exact hk rc _ Y hsz h2
end ob

/-! ### Rounds -/
/-- What the loop does with each item that is handed to it: of whatever part of the world it owns. -/
structure Yd {α : Type} (P : Program) (L : Nat) (args : α → Array Value) (M : Nat) (I : List α → List Res → Prop) : Prop where
  round : ∀ (pre : List α) (x : α) (rs : List Res) (F : Nat → Prop) (W : World) (k : Value → World → Prop), I pre rs → pre.length < M → Ow F W W rs → (∀ rs' W', I (pre ++ [x]) rs' → Ow F W W' rs' → k (.bool true) W') →
    Yield P (callSem (.func (.yield L) #[] #[]) (args x)) W k (fun _ _ => False)

/-! ### Arguments that are structs, or hold them -/
section openG
variable {H α : Type} {enc : TypeId × Value → H} {P : Program} {w : World} {base : Nat} {spare : Nat → Bool} {held : Bool}
theorem fields_of {P : Program} {t : TypeId} {l : List (TypeId × Nat)} (h : (match P.underlying t with | some (.struct fs) => some (fs.toList.map fun f => (f.type, f.offset)) | _ => none) = some l) : ∃ fs : Array Field, P.underlying t = some (.struct fs) ∧ (fs.toList.map fun f => (f.type, f.offset)) = l := by
  split at h
  · rename_i fs e; exact ⟨fs, e, Option.some.inj h⟩
  · cases h
theorem open_valG {r : Reach} {b0 : Nat} {en : α → List Value} {wf : α → Prop} {t : TypeId} {l : List (TypeId × Nat)} {d : DataW H} {ps : List MemPlace} {v : Value} (ht : ∃ fs : Array Field, P.underlying t = some (.struct fs) ∧ (fs.toList.map fun f => (f.type, f.offset)) = l) (hv : Value.okWide P w r b0 t v)
    (dec : ∀ fuel cs x, DataW.trod enc P w base spare held fuel t cs = some x → ∃ y, cs = en y ∧ wf y) (h : DataW.Trod enc P w base spare held t v d ps) : ∃ x, v = .agg (en x).toArray ∧ wf x := by
  obtain ⟨fs, ht, _⟩ := ht
  unfold Value.okWide at hv
  rw [ht] at hv
  obtain ⟨cs, rfl, _⟩ := hv
  obtain ⟨fuel, h⟩ := h
  obtain ⟨x, hx, hw⟩ := dec _ _ _ h
  refine ⟨x, ?_, hw⟩
  have : cs.toList = en x := hx
  rw [← this]
end openG
end Go.Vc
