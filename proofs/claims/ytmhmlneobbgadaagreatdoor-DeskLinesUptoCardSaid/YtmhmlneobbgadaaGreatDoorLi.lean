/- Maps in the order in which their entries came; ranges over them; slices that are made and copied. -/
import Derived.Test.YtmhmlneobbgadaaGreatDoorLa
import Derived.Maps.RangeRun
import Derived.Laws.CopyRow
import Derived.Laws.OwnMore
namespace Go.Vc
open Go Go.RowKit
set_option linter.unusedSectionVars false
set_option linter.unusedVariables false

/-! ### Lists of pairs -/
section kv
variable {α β : Type} [DecidableEq α]
def kget (kv : List (α × β)) (a : α) : Option β := (kv.find? fun p => decide (p.1 = a)).map (·.2)
def kset (kv : List (α × β)) (a : α) (b : β) : List (α × β) := if (kget kv a).isSome = true then kv.map (fun p => if p.1 = a then (a, b) else p) else kv ++ [(a, b)]
def kdel (kv : List (α × β)) (a : α) : List (α × β) := kv.filter fun p => decide (p.1 ≠ a)
theorem kget_mem {kv : List (α × β)} {a : α} {b : β} (hn : (kv.map (·.1)).Nodup) (h : (a, b) ∈ kv) : kget kv a = some b := by
  induction kv with
  | nil => cases h
  | cons p kv ih =>
    have hn' := List.nodup_cons.1 hn
    unfold kget
    rw [List.find?_cons]
    rcases List.mem_cons.1 h with e | e
    · subst e; simp
    · have hne : p.1 ≠ a := fun he => hn'.1 (List.mem_map.2 ⟨(a, b), e, he.symm⟩)
      simp only [decide_eq_false hne]
      exact ih hn'.2 e
theorem kget_none {kv : List (α × β)} {a : α} (h : ∀ p ∈ kv, p.1 ≠ a) : kget kv a = none := by
  unfold kget
  rw [List.find?_eq_none.2 fun p hp => by simp [h p hp]]
  rfl
theorem kget_some {kv : List (α × β)} {a : α} {b : β} (h : kget kv a = some b) : (a, b) ∈ kv := by
  unfold kget at h
  obtain ⟨p, hp, rfl⟩ := Option.map_eq_some_iff.1 h
  have h1 := List.find?_some hp
  have h2 : p.1 = a := by simpa using h1
  subst h2
  exact List.mem_of_find?_eq_some hp
theorem nodup_map_inj {γ δ : Type} {f : γ → δ} : ∀ {l : List γ}, (l.map f).Nodup → ∀ {x y : γ}, x ∈ l → y ∈ l → f x = f y → x = y
  | z :: l, hn, x, y, hx, hy, e => by
    have hn' := List.nodup_cons.1 hn
    rcases List.mem_cons.1 hx with e1 | hx1
    · rcases List.mem_cons.1 hy with e2 | hy1
      · rw [e1, e2]
      · exact absurd (List.mem_map.2 ⟨y, hy1, by rw [← e, e1]⟩) hn'.1
    · rcases List.mem_cons.1 hy with e2 | hy1
      · exact absurd (List.mem_map.2 ⟨x, hx1, by rw [e, e2]⟩) hn'.1
      · exact nodup_map_inj hn'.2 hx1 hy1 e
theorem kset_keys {kv : List (α × β)} {a : α} {b : β} (hn : (kv.map (·.1)).Nodup) : ((kset kv a b).map (·.1)).Nodup := by
  unfold kset
  split
  · have : (kv.map fun p => if p.1 = a then (a, b) else p).map (·.1) = kv.map (·.1) := by
      rw [List.map_map]
      apply List.map_congr_left
      intro p _
      simp only [Function.comp]
      split
      · rename_i h; exact h.symm
      · rfl
    rw [this]; exact hn
  · rename_i h
    rw [List.map_append, List.nodup_append]
    refine ⟨hn, by simp, fun x hx y hy => ?_⟩
    simp only [List.map_cons, List.map_nil, List.mem_singleton] at hy
    subst hy
    rintro rfl
    obtain ⟨p, hp, rfl⟩ := List.mem_map.1 hx
    exact h (by rw [kget_mem hn (b := p.2) hp]; rfl)
theorem kdel_keys {kv : List (α × β)} {a : α} (hn : (kv.map (·.1)).Nodup) : ((kdel kv a).map (·.1)).Nodup := hn.sublist ((List.filter_sublist).map _)
theorem kdel_erase : ∀ {kv : List (α × β)} {a : α} {b : β} {i : Nat}, (kv.map (·.1)).Nodup → kv[i]? = some (a, b) → kdel kv a = kv.eraseIdx i
  | p :: kv, a, b, 0, hn, h => by
    have hn' := List.nodup_cons.1 hn
    simp only [List.getElem?_cons_zero, Option.some.injEq] at h
    subst h
    unfold kdel
    rw [List.filter_cons]
    simp only [ne_eq, not_true, decide_false, List.eraseIdx_zero, List.tail_cons, Bool.false_eq_true, if_false]
    exact List.filter_eq_self.2 fun q hq => by
      simp only [decide_eq_true_eq]
      exact fun e => hn'.1 (List.mem_map.2 ⟨q, hq, e⟩)
  | p :: kv, a, b, i + 1, hn, h => by
    have hn' := List.nodup_cons.1 hn
    simp only [List.getElem?_cons_succ] at h
    have hne : p.1 ≠ a := fun e => hn'.1 (List.mem_map.2 ⟨(a, b), List.mem_of_getElem? h, e.symm⟩)
    have ih := kdel_erase hn'.2 h
    unfold kdel at ih ⊢
    rw [List.filter_cons]
    simp only [ne_eq, hne, not_false_eq_true, decide_true, if_true, List.eraseIdx_cons_succ]
    rw [← ih]
theorem kdel_none {kv : List (α × β)} {a : α} (h : ∀ p ∈ kv, p.1 ≠ a) : kdel kv a = kv := List.filter_eq_self.2 fun p hp => by simpa using h p hp
end kv

/-! ### Maps -/
section maps
variable {α β : Type} [DecidableEq α] {P : Program} {mt kt et : TypeId} {W : World} {m : Nat} {enc : α → Value} {encV : β → Value} {kv : List (α × β)}
/-- The entries are those of kv. -/
def EsR (enc : α → Value) (encV : β → Value) (es : Array MapEntry) (kv : List (α × β)) : Prop :=
  (es.toList.map (·.born)).Nodup ∧ es.toList.map (fun e => (e.key, e.val)) = kv.map (fun p => (enc p.1, encV p.2)) ∧ (kv.map (·.1)).Nodup
/-- The map at m holds kv, in this order. -/
def MapQ (W : World) (m : Nat) (enc : α → Value) (encV : β → Value) (kv : List (α × β)) : Prop :=
  ∃ es clock, W.heap[m]? = some (.map es clock) ∧ (∀ e ∈ es.toList, e.born < clock) ∧ EsR enc encV es kv
/-- The iterator at r goes over the map at m, and has handed out done. -/
def IterQ (W : World) (r m : Nat) (enc : α → Value) (encV : β → Value) (kv : List (α × β)) (done : List α) : Prop :=
  ∃ es clock since seen c0, W.heap[r]? = some (.mapIter (some m) since seen c0) ∧ W.heap[m]? = some (.map es clock) ∧ (∀ e ∈ es.toList, e.born < since) ∧ since ≤ c0 ∧ since ≤ clock ∧ EsR enc encV es kv ∧
    ∀ e ∈ es.toList, seen.contains e.born = true ↔ ∃ a ∈ done, e.key = enc a
theorem EsR.at' {es : Array MapEntry} (h : EsR enc encV es kv) {i : Nat} {e : MapEntry} (he : es.toList[i]? = some e) : ∃ p, kv[i]? = some p ∧ e.key = enc p.1 ∧ e.val = encV p.2 := by
  have h1 := congrArg (fun l => l[i]?) h.2.1
  simp only [List.getElem?_map, he, Option.map_some] at h1
  obtain ⟨p, hp, h2⟩ := Option.map_eq_some_iff.1 h1.symm
  exact ⟨p, hp, (congrArg Prod.fst h2).symm, (congrArg Prod.snd h2).symm⟩
theorem EsR.of {es : Array MapEntry} (h : EsR enc encV es kv) {i : Nat} {p : α × β} (hp : kv[i]? = some p) : ∃ e, es.toList[i]? = some e ∧ e.key = enc p.1 ∧ e.val = encV p.2 := by
  have h1 := congrArg (fun l => l[i]?) h.2.1
  simp only [List.getElem?_map, hp, Option.map_some] at h1
  obtain ⟨e, he, h2⟩ := Option.map_eq_some_iff.1 h1
  exact ⟨e, he, congrArg Prod.fst h2, congrArg Prod.snd h2⟩
theorem EsR.len {es : Array MapEntry} (h : EsR enc encV es kv) : es.size = kv.length := by
  have := congrArg List.length h.2.1
  simpa using this
theorem EsR.mem {es : Array MapEntry} (h : EsR enc encV es kv) {e : MapEntry} (he : e ∈ es.toList) : ∃ p ∈ kv, e.key = enc p.1 ∧ e.val = encV p.2 := by
  obtain ⟨i, hi⟩ := List.getElem?_of_mem he
  obtain ⟨p, hp, h1⟩ := h.at' hi
  exact ⟨p, List.mem_of_getElem? hp, h1⟩
theorem EsR.keys (K : KeyOK P kt enc) {es : Array MapEntry} (h : EsR enc encV es kv) : (es.toList.map (·.key)).Nodup := by
  have h1 : es.toList.map (·.key) = (kv.map (·.1)).map enc := by
    have := congrArg (fun l => l.map Prod.fst) h.2.1
    rw [List.map_map, List.map_map] at this
    rw [List.map_map]
    exact this
  rw [h1]
  unfold List.Nodup
  rw [List.pairwise_map]
  exact h.2.2.imp fun hne e => hne (K.inj _ _ e)
theorem EsR.find (K : KeyOK P kt enc) {es : Array MapEntry} (h : EsR enc encV es kv) (a : α) (W : World) :
    (∃ i e b, es.toList[i]? = some e ∧ e.key = enc a ∧ kv[i]? = some (a, b) ∧ kget kv a = some b ∧ (Instr.findKey kt (enc a) es.toList).run P W = .ok (some (i, encV b)) W) ∨ (kget kv a = none ∧ (∀ p ∈ kv, p.1 ≠ a) ∧ (Instr.findKey kt (enc a) es.toList).run P W = .ok none W) := by
  rcases K.find a es.toList W (fun e he => by obtain ⟨p, _, hp, _⟩ := h.mem he; exact ⟨p.1, hp⟩) with ⟨i, e, h4, h5, h6⟩ | ⟨h4, h5⟩
  · obtain ⟨p, hp, hk, hv⟩ := h.at' h4
    have := K.inj _ _ (hk.symm.trans h5)
    obtain ⟨a', b⟩ := p
    dsimp only at this hk hv
    subst this
    exact .inl ⟨i, e, b, h4, h5, hp, kget_mem h.2.2 (List.mem_of_getElem? hp), by rw [← hv]; exact h6⟩
  · have hn : ∀ p ∈ kv, p.1 ≠ a := fun p hp e => by
      obtain ⟨i, hi⟩ := List.getElem?_of_mem hp
      obtain ⟨x, hx, hk, _⟩ := h.of hi
      exact h4 x (List.mem_of_getElem? hx) (by rw [hk, e])
    exact .inr ⟨kget_none hn, hn, h5⟩
theorem MapQ.of_heap {W' : World} (h : MapQ W m enc encV kv) (hm : W'.heap[m]? = W.heap[m]?) : MapQ W' m enc encV kv := by
  obtain ⟨es, c, h1, h2⟩ := h
  exact ⟨es, c, hm.trans h1, h2⟩
theorem MapQ.lt (h : MapQ W m enc encV kv) : m < W.heap.size := by obtain ⟨es, c, h1, _⟩ := h; exact heap_lt h1
theorem MapQ.nodup (h : MapQ W m enc encV kv) : (kv.map (·.1)).Nodup := by obtain ⟨es, c, _, _, h⟩ := h; exact h.2.2
theorem MapQ.lookup (h : MapQ W m enc encV kv) (K : KeyOK P kt enc) (ht : P.underlying mt = some (.map kt et)) {z : Value} (hz : ∀ w, (zeroValue et).run P w = .ok z w) (a : α) :
    (Instr.lookup mt (.map (some m)) (enc a) true).run P W = .ok (.tuple #[((kget kv a).map encV).getD z, .bool (kget kv a).isSome]) W := by
  obtain ⟨es, c, h1, hb, hE⟩ := h
  unfold Instr.lookup
  rcases hE.find K a W with ⟨i, e, b, _, _, _, hf, hr⟩ | ⟨hf, _, hr⟩
  · simp [run_underlying' ht, run_getObj h1, K.chk, hr, hf]
  · simp [run_underlying' ht, run_getObj h1, K.chk, hr, hf, hz]
theorem MapQ.lookup1 (h : MapQ W m enc encV kv) (K : KeyOK P kt enc) (ht : P.underlying mt = some (.map kt et)) {z : Value} (hz : ∀ w, (zeroValue et).run P w = .ok z w) (a : α) :
    (Instr.lookup mt (.map (some m)) (enc a) false).run P W = .ok (((kget kv a).map encV).getD z) W := by
  obtain ⟨es, c, h1, hb, hE⟩ := h
  unfold Instr.lookup
  rcases hE.find K a W with ⟨i, e, b, _, _, _, hf, hr⟩ | ⟨hf, _, hr⟩
  · simp [run_underlying' ht, run_getObj h1, K.chk, hr, hf]
  · simp [run_underlying' ht, run_getObj h1, K.chk, hr, hf, hz]
theorem nil_lookup (K : KeyOK P kt enc) (ht : P.underlying mt = some (.map kt et)) {z : Value} (hz : ∀ w, (zeroValue et).run P w = .ok z w) (a : α) (W : World) :
    (Instr.lookup mt (.map none) (enc a) true).run P W = .ok (.tuple #[z, .bool false]) W := by
  have hf : (Instr.findKey kt (enc a) []).run P W = .ok none W := by
    rcases K.find a [] W (fun e he => by cases he) with ⟨i, e, h, _⟩ | ⟨_, h⟩
    · cases h
    · exact h
  unfold Instr.lookup
  simp [run_underlying' ht, K.chk, hz, hf]
theorem nil_lookup1 (K : KeyOK P kt enc) (ht : P.underlying mt = some (.map kt et)) {z : Value} (hz : ∀ w, (zeroValue et).run P w = .ok z w) (a : α) (W : World) :
    (Instr.lookup mt (.map none) (enc a) false).run P W = .ok z W := by
  have hf : (Instr.findKey kt (enc a) []).run P W = .ok none W := by
    rcases K.find a [] W (fun e he => by cases he) with ⟨i, e, h, _⟩ | ⟨_, h⟩
    · cases h
    · exact h
  unfold Instr.lookup
  simp [run_underlying' ht, K.chk, hz, hf]
theorem MapQ.size (h : MapQ W m enc encV kv) (ht : P.underlying mt = some (.map kt et)) (ty : TypeId) : (Builtin.len_ #[mt] ty #[.map (some m)]).run P W = .ok (.int .i64 (kv.length : Int)) W := by
  obtain ⟨es, c, h1, hb, hE⟩ := h
  simp [Builtin.len_, run_underlying' ht, run_getObj h1, hE.len, goInt]
theorem nil_size (ht : P.underlying mt = some (.map kt et)) (ty : TypeId) (W : World) : (Builtin.len_ #[mt] ty #[.map none]).run P W = .ok (.int .i64 0) W := by
  simp [Builtin.len_, run_underlying' ht, goInt]
theorem MapQ.update (h : MapQ W m enc encV kv) (K : KeyOK P kt enc) (ht : P.underlying mt = some (.map kt et)) (a : α) (b : β) :
    ∃ o, (Instr.mapUpdate mt (.map (some m)) (enc a) (encV b)).run P W = .ok () (World.setBlk W m o) ∧ MapQ (World.setBlk W m o) m enc encV (kset kv a b) := by
  obtain ⟨es, c, h1, hb, hE⟩ := h
  unfold Instr.mapUpdate
  rcases hE.find K a W with ⟨i, e, b', hi, hk, hkv, hf, hr⟩ | ⟨hf, hn, hr⟩
  · have hi' : es[i]? = some e := by simpa using hi
    refine ⟨.map (es.modify i fun e => { e with key := enc a, val := encV b }) c, ?_, ?_⟩
    · have hks := K.stays a W
      simp [run_underlying' ht, run_getObj h1, K.chk, hr, hi', hk, hks, run_setObj h1]
    · have hborn : (es.toList.modify i fun e => { e with key := enc a, val := encV b }).map (·.born) = es.toList.map (·.born) := by
        apply List.ext_getElem?
        intro j
        simp only [List.getElem?_map, List.getElem?_modify]
        by_cases hj : i = j
        · subst hj; simp [hi']
        · simp [hj]
      refine ⟨_, _, setBlk_same h1, fun e' he' => ?_, by rw [Array.toList_modify, hborn]; exact hE.1, ?_, kset_keys hE.2.2⟩
      · have hm : e'.born ∈ es.toList.map (·.born) := by
          rw [← hborn, ← Array.toList_modify]; exact List.mem_map.2 ⟨e', he', rfl⟩
        obtain ⟨x, hx, e1⟩ := List.mem_map.1 hm
        rw [← e1]; exact hb x hx
      · unfold kset
        rw [hf, Option.isSome_some, if_pos rfl, Array.toList_modify]
        apply List.ext_getElem?
        intro j
        have hj0 := congrArg (fun l => l[j]?) hE.2.1
        simp only [List.getElem?_map, List.getElem?_modify] at hj0 ⊢
        by_cases hj : i = j
        · subst hj; simp [hi', hkv]
        · simp only [hj, if_false]
          have hne : ∀ p, kv[j]? = some p → p.1 ≠ a := fun p hp he => by
            have e1 : (kv.map (·.1))[i]? = some a := by simp [hkv]
            have e2 : (kv.map (·.1))[j]? = some a := by simp [hp, he]
            have hl : i < (kv.map (·.1)).length := (List.getElem?_eq_some_iff.1 e1).1
            exact hj ((List.getElem?_inj hl hE.2.2).1 (e1.trans e2.symm))
          cases hq : kv[j]? with
          | none => rw [hq] at hj0; simpa using hj0
          | some p => rw [hq] at hj0; simpa [hne p hq] using hj0
  · refine ⟨.map (es.push { key := enc a, val := encV b, born := c }) (c + 1), ?_, ?_⟩
    · simp [run_underlying' ht, run_getObj h1, K.chk, hr, run_setObj h1]
    · refine ⟨_, _, setBlk_same h1, fun e' he' => ?_, ?_, ?_, kset_keys hE.2.2⟩
      · rw [Array.toList_push, List.mem_append] at he'
        rcases he' with he' | he'
        · have := hb e' he'; omega
        · rw [List.mem_singleton] at he'; subst he'; exact Nat.lt_succ_self c
      · rw [Array.toList_push, List.map_append, List.nodup_append]
        refine ⟨hE.1, by simp, fun x hx y hy => ?_⟩
        simp only [List.map_cons, List.map_nil, List.mem_singleton] at hy
        obtain ⟨z, hz, rfl⟩ := List.mem_map.1 hx
        subst hy
        have := hb z hz
        omega
      · unfold kset
        rw [hf, Array.toList_push, List.map_append, hE.2.1]
        simp
theorem EsR.erase {es : Array MapEntry} (hE : EsR enc encV es kv) {i : Nat} {a : α} {b : β} (hi : i < es.size) (hkv : kv[i]? = some (a, b)) : EsR enc encV (es.eraseIdxIfInBounds i) (kdel kv a) ∧ (es.eraseIdxIfInBounds i).toList.Sublist es.toList := by
  have hel : (es.eraseIdxIfInBounds i).toList = es.toList.eraseIdx i := by simp [Array.eraseIdxIfInBounds, hi]
  refine ⟨⟨?_, ?_, kdel_keys hE.2.2⟩, by rw [hel]; exact List.eraseIdx_sublist _ _⟩
  · rw [hel]; exact hE.1.sublist ((List.eraseIdx_sublist _ _).map _)
  · rw [hel, kdel_erase hE.2.2 hkv, Go.ChangeMaps.map_eraseIdx, Go.ChangeMaps.map_eraseIdx, hE.2.1]
theorem MapQ.delete {kt' ty : TypeId} (h : MapQ W m enc encV kv) (K : KeyOK P kt enc) (ht : P.underlying mt = some (.map kt et)) (a : α) :
    ∃ o, (Builtin.delete_ #[mt, kt'] ty #[.map (some m), enc a]).run P W = .ok (.tuple #[]) (World.setBlk W m o) ∧ MapQ (World.setBlk W m o) m enc encV (kdel kv a) := by
  obtain ⟨es, c, h1, hb, hE⟩ := h
  unfold Builtin.delete_
  rcases hE.find K a W with ⟨i, e, b', hi, hk, hkv, hf, hr⟩ | ⟨hf, hn, hr⟩
  · have hil : i < es.size := by have := (List.getElem?_eq_some_iff.1 hi).1; simpa using this
    refine ⟨.map (es.eraseIdxIfInBounds i) c, ?_, ?_⟩
    · simp [run_underlying' ht, run_getObj h1, K.chk, hr, run_setObj h1]
    · obtain ⟨h2, h3⟩ := hE.erase hil hkv
      exact ⟨_, _, setBlk_same h1, fun e' he' => hb e' (h3.subset he'), h2⟩
  · refine ⟨.map es c, ?_, ?_⟩
    · simp [run_underlying' ht, run_getObj h1, K.chk, hr, run_setObj h1]
    · exact ⟨_, _, setBlk_same h1, hb, by rw [kdel_none hn]; exact hE⟩

/-! ### Ranges -/
theorem MapQ.range (h : MapQ W m enc encV kv) (ht : P.underlying mt = some (.map kt et)) :
    ∃ W', (Instr.range mt (.map (some m))).run P W = .ok (.pointer (some ⟨W.heap.size, 0, none⟩)) W' ∧ Below W.heap.size W W' ∧ W.heap.size < W'.heap.size ∧ IterQ W' W.heap.size m enc encV kv [] := by
  obtain ⟨es, c, h1, hb, hE⟩ := h
  refine ⟨_, run_range_map W mt kt et m es c ht h1, (Below.refl _ W).alloc (Nat.le_refl _) _, by simp, es, c, c, #[], c, heap_alloc_new _ _, (heap_alloc_old _ _ (heap_lt h1)).trans h1, hb, Nat.le_refl _, Nat.le_refl _, hE, fun e he => ?_⟩
  simp
theorem IterQ.next {r : Nat} {done : List α} (K : KeyOK P kt enc) (ty : TypeId) (h : IterQ W r m enc encV kv done) :
    ((∀ p ∈ kv, p.1 ∈ done) ∧ (Instr.next (.pointer (some ⟨r, 0, none⟩)) false ty).run P W = .ok (.tuple #[.bool false]) W) ∨
    ∃ p ∈ kv, p.1 ∉ done ∧ ∃ W', (Instr.next (.pointer (some ⟨r, 0, none⟩)) false ty).run P W = .ok (.tuple #[.bool true, enc p.1, encV p.2]) W' ∧ Fr (fun b => b = r) W W' ∧ IterQ W' r m enc encV kv (p.1 :: done) ∧
      (Instr.entry (.pointer (some ⟨r, 0, none⟩))).run P W' = .ok (.tuple #[enc p.1, encV p.2]) W' := by
  obtain ⟨es, c, since, seen, c0, hr, hm, hold, hsc, hcc, hE, hseen⟩ := h
  have hne : m ≠ r := fun e => by subst e; rw [hm] at hr; cases hr
  rcases run_next_at (P := P) W ty r m since c0 seen es c hr hm hold hsc with ⟨h0, hrun⟩ | ⟨e, he, w1, hw1, hrun⟩
  · refine .inl ⟨fun p hp => ?_, hrun⟩
    obtain ⟨i, hi⟩ := List.getElem?_of_mem hp
    obtain ⟨e, he, hk, _⟩ := hE.of hi
    have hem := List.mem_of_getElem? he
    have hs : seen.contains e.born = true := by
      cases hc : seen.contains e.born with
      | true => rfl
      | false =>
        have : e ∈ leftOf es seen := Array.mem_filter.2 ⟨Array.mem_toList_iff.1 hem, by rw [hc]; rfl⟩
        have : 0 < (leftOf es seen).size := by
          obtain ⟨j, hj, _⟩ := Array.mem_iff_getElem.1 this
          omega
        omega
    obtain ⟨a, ha, h2⟩ := (hseen e hem).1 hs
    rw [← K.inj _ _ (h2.symm.trans hk)]
    exact ha
  · obtain ⟨hem, hns⟩ := mem_left he
    obtain ⟨p, hp, hk, hv⟩ := hE.mem hem
    have hnd : p.1 ∉ done := fun hd => by
      have := (hseen e hem).2 ⟨p.1, hd, hk⟩
      rw [hns] at this; cases this
    have hr1 : w1.heap[r]? = some (.mapIter (some m) since seen c0) := by rcases hw1 with rfl | rfl <;> exact hr
    have hm1 : w1.heap[m]? = some (.map es c) := by rcases hw1 with rfl | rfl <;> exact hm
    have hr2 : (World.setBlk w1 r (.mapIter (some m) since (seen.push e.born) c)).heap[r]? = _ := setBlk_same hr1
    have hm2 : (World.setBlk w1 r (.mapIter (some m) since (seen.push e.born) c)).heap[m]? = _ := (setBlk_other hne).trans hm1
    refine .inr ⟨p, hp, hnd, World.setBlk w1 r (.mapIter (some m) since (seen.push e.born) c), by rw [← hk, ← hv]; exact hrun, ?_, ⟨es, c, since, _, c, hr2, hm2, hold, hcc, hcc, hE, fun e' he' => ?_⟩, ?_⟩
    · have f1 : Fr (fun b => b = r) W w1 := by
        rcases hw1 with rfl | rfl
        · exact Fr.refl _ _
        · exact ⟨rfl, rfl, rfl, Nat.le_refl _, fun _ _ _ => rfl⟩
      exact f1.trans (Fr.setBlk (S := fun b => b = r) rfl w1 _)
    · rw [contains_push]
      constructor
      · intro hc
        rcases Bool.or_eq_true_iff.1 hc with hc | hc
        · obtain ⟨a, ha, h2⟩ := (hseen e' he').1 hc
          exact ⟨a, List.mem_cons_of_mem _ ha, h2⟩
        · have : e' = e := nodup_map_inj hE.1 he' hem (beq_iff_eq.1 hc)
          subst this
          exact ⟨p.1, List.mem_cons_self, hk⟩
      · rintro ⟨a, ha, h2⟩
        rcases List.mem_cons.1 ha with rfl | ha
        · have : e' = e := nodup_map_inj (hE.keys K) he' hem (h2.trans hk.symm)
          subst this
          simp
        · rw [(hseen e' he').2 ⟨a, ha, h2⟩]; rfl
    · rw [← hk, ← hv]
      exact run_entry_at _ r m since seen es c e hr2 hm2 hem hE.1
theorem IterQ.delete {r : Nat} {done : List α} {kt' ty : TypeId} (h : IterQ W r m enc encV kv done) (K : KeyOK P kt enc) (ht : P.underlying mt = some (.map kt et)) (a : α) :
    ∃ o, (Builtin.delete_ #[mt, kt'] ty #[.map (some m), enc a]).run P W = .ok (.tuple #[]) (World.setBlk W m o) ∧ IterQ (World.setBlk W m o) r m enc encV (kdel kv a) done := by
  obtain ⟨es, c, since, seen, c0, hr, h1, hold, hsc, hcc, hE, hseen⟩ := h
  have hne : r ≠ m := fun e => by subst e; rw [h1] at hr; cases hr
  unfold Builtin.delete_
  rcases hE.find K a W with ⟨i, e, b', hi, hk, hkv, hf, hrn⟩ | ⟨hf, hn, hrn⟩
  · have hil : i < es.size := by have := (List.getElem?_eq_some_iff.1 hi).1; simpa using this
    refine ⟨.map (es.eraseIdxIfInBounds i) c, ?_, ?_⟩
    · simp [run_underlying' ht, run_getObj h1, K.chk, hrn, run_setObj h1]
    · obtain ⟨h2, h3⟩ := hE.erase hil hkv
      exact ⟨_, _, since, seen, c0, (setBlk_other hne).trans hr, setBlk_same h1, fun e' he' => hold e' (h3.subset he'), hsc, hcc, h2, fun e' he' => hseen e' (h3.subset he')⟩
  · refine ⟨.map es c, ?_, ?_⟩
    · simp [run_underlying' ht, run_getObj h1, K.chk, hrn, run_setObj h1]
    · exact ⟨_, _, since, seen, c0, (setBlk_other hne).trans hr, setBlk_same h1, hold, hsc, hcc, by rw [kdel_none hn]; exact hE, hseen⟩
theorem IterQ.map {r : Nat} {done : List α} (h : IterQ W r m enc encV kv done) : MapQ W m enc encV kv := by
  obtain ⟨es, c, since, seen, c0, hr, h1, hold, hsc, hcc, hE, hseen⟩ := h
  exact ⟨es, c, h1, fun e he => Nat.lt_of_lt_of_le (hold e he) hcc, hE⟩
theorem IterQ.lt {r : Nat} {done : List α} (h : IterQ W r m enc encV kv done) : r < W.heap.size := by
  obtain ⟨es, c, since, seen, c0, hr, _⟩ := h; exact heap_lt hr
theorem IterQ.of_heap {W' : World} {r : Nat} {done : List α} (h : IterQ W r m enc encV kv done) (hr : W'.heap[r]? = W.heap[r]?) (hm : W'.heap[m]? = W.heap[m]?) : IterQ W' r m enc encV kv done := by
  obtain ⟨es, c, since, seen, c0, h1, h2, h3⟩ := h
  exact ⟨es, c, since, seen, c0, hr.trans h1, hm.trans h2, h3⟩

/-! ### Owned -/
def Res.mq (m : Nat) (enc : α → Value) (encV : β → Value) (kv : List (α × β)) : Res := ⟨fun x => x = m, fun W => MapQ W m enc encV kv, fun hf h k => k.of_heap (hf.blk m k.lt (h m rfl))⟩
def Res.it (r m : Nat) (enc : α → Value) (encV : β → Value) (kv : List (α × β)) (done : List α) : Res := ⟨fun x => x = m ∨ x = r, fun W => IterQ W r m enc encV kv done, fun hf h k => k.of_heap (hf.blk r k.lt (h r (.inr rfl))) (hf.blk m k.map.lt (h m (.inl rfl)))⟩
variable {S : Nat → Prop} {W0 : World} {rs : List Res}
theorem Ow.newmq {k : Nat → World → Prop} (h : Ow S W0 W rs) (enc : α → Value) (encV : β → Value) (hk : ∀ m W', Ow S W0 W' (.mq m enc encV [] :: rs) → k m W') : NewM W k :=
  NewM.mk fun m W' h1 hm hs hbl => hk m W' (h.push hbl _ ⟨#[], 0, h1, by simp, by simp, by simp, by simp⟩ fun x hx => by cases hx; omega)
theorem Ow.lookq {z : Value} {k : Value → Prop} {a : α} (h : Ow S W0 W rs) (i : Nat) (hi : rs[i]? = some (.mq m enc encV kv)) (K : KeyOK P kt enc) (ht : P.underlying mt = some (.map kt et)) (hz : ∀ w, (zeroValue et).run P w = .ok z w)
    (hk : k (.tuple #[((kget kv a).map encV).getD z, .bool (kget kv a).isSome])) : RunR P (Instr.lookup mt (.map (some m)) (enc a) true) W k :=
  RunR.mk (fun _ hb => (Res.bel (h.get i hi) hb : MapQ _ m enc encV kv).lookup K ht hz a) hk
theorem Ow.lookq1 {z : Value} {k : Value → Prop} {a : α} (h : Ow S W0 W rs) (i : Nat) (hi : rs[i]? = some (.mq m enc encV kv)) (K : KeyOK P kt enc) (ht : P.underlying mt = some (.map kt et)) (hz : ∀ w, (zeroValue et).run P w = .ok z w)
    (hk : k (((kget kv a).map encV).getD z)) : RunR P (Instr.lookup mt (.map (some m)) (enc a) false) W k :=
  RunR.mk (fun _ hb => (Res.bel (h.get i hi) hb : MapQ _ m enc encV kv).lookup1 K ht hz a) hk
theorem Ow.sizeq {k : Value → Prop} {ty : TypeId} (h : Ow S W0 W rs) (i : Nat) (hi : rs[i]? = some (.mq m enc encV kv)) (ht : P.underlying mt = some (.map kt et)) (hk : k (.int .i64 (kv.length : Int))) : RunR P (Builtin.len_ #[mt] ty #[.map (some m)]) W k :=
  RunR.mk (fun _ hb => (Res.bel (h.get i hi) hb : MapQ _ m enc encV kv).size ht ty) hk
theorem Ow.sizei {k : Value → Prop} {ty : TypeId} {r : Nat} {done : List α} (h : Ow S W0 W rs) (i : Nat) (hi : rs[i]? = some (.it r m enc encV kv done)) (ht : P.underlying mt = some (.map kt et)) (hk : k (.int .i64 (kv.length : Int))) : RunR P (Builtin.len_ #[mt] ty #[.map (some m)]) W k :=
  RunR.mk (fun _ hb => (Res.bel (h.get i hi) hb : IterQ _ r m enc encV kv done).map.size ht ty) hk
theorem Ow.updq {k : World → Prop} {a : α} {b : β} (h : Ow S W0 W rs) (i : Nat) (hi : rs[i]? = some (.mq m enc encV kv)) (K : KeyOK P kt enc) (ht : P.underlying mt = some (.map kt et))
    (hk : ∀ W', Ow S W0 W' (rs.set i (.mq m enc encV (kset kv a b))) → k W') : RunU P (Instr.mapUpdate mt (.map (some m)) (enc a) (encV b)) W k := by
  obtain ⟨o, h1, h2⟩ := (h.get i hi : MapQ W m enc encV kv).update K ht a b
  exact ⟨_, h1, hk _ (h.upd hi (Fr.setBlk (S := fun x => x = m) rfl W o) (.mq m enc encV (kset kv a b)) h2 fun b hb => .inl hb)⟩
theorem Ow.delq {k : Value → World → Prop} {a : α} {kt' ty : TypeId} (h : Ow S W0 W rs) (i : Nat) (hi : rs[i]? = some (.mq m enc encV kv)) (K : KeyOK P kt enc) (ht : P.underlying mt = some (.map kt et))
    (hk : ∀ W', Ow S W0 W' (rs.set i (.mq m enc encV (kdel kv a))) → k (.tuple #[]) W') : RunW P (Builtin.delete_ #[mt, kt'] ty #[.map (some m), enc a]) W k := by
  obtain ⟨o, h1, h2⟩ := (h.get i hi : MapQ W m enc encV kv).delete (kt' := kt') (ty := ty) K ht a
  exact ⟨_, _, h1, hk _ (h.upd hi (Fr.setBlk (S := fun x => x = m) rfl W o) (.mq m enc encV (kdel kv a)) h2 fun b hb => .inl hb)⟩
theorem Ow.deli {k : Value → World → Prop} {a : α} {kt' ty : TypeId} {r : Nat} {done : List α} (h : Ow S W0 W rs) (i : Nat) (hi : rs[i]? = some (.it r m enc encV kv done)) (K : KeyOK P kt enc) (ht : P.underlying mt = some (.map kt et))
    (hk : ∀ W', Ow S W0 W' (rs.set i (.it r m enc encV (kdel kv a) done)) → k (.tuple #[]) W') : RunW P (Builtin.delete_ #[mt, kt'] ty #[.map (some m), enc a]) W k := by
  obtain ⟨o, h1, h2⟩ := (h.get i hi : IterQ W r m enc encV kv done).delete (kt' := kt') (ty := ty) K ht a
  exact ⟨_, _, h1, hk _ (h.upd hi (Fr.setBlk (S := fun x => x = m ∨ x = r) (.inl rfl) W o) (.it r m enc encV (kdel kv a) done) h2 fun b hb => .inl hb)⟩
theorem Ow.rangeq {k : Value → World → Prop} (h : Ow S W0 W rs) (i : Nat) (hi : rs[i]? = some (.mq m enc encV kv)) (ht : P.underlying mt = some (.map kt et))
    (hk : ∀ r W', Ow S W0 W' (rs.set i (.it r m enc encV kv [])) → k (.pointer (some ⟨r, 0, none⟩)) W') : RunW P (Instr.range mt (.map (some m))) W k := by
  obtain ⟨W', h1, hb, hl, h2⟩ := (h.get i hi : MapQ W m enc encV kv).range (P := P) ht
  exact ⟨_, _, h1, hk _ _ (h.upd hi (frOf hb) (.it W.heap.size m enc encV kv []) h2 fun b hb => by
    rcases hb with hb | hb
    · exact .inl hb
    · subst hb; exact .inr ⟨Nat.le_refl _, hl⟩)⟩
/-- The next round: over, or one more pair. -/
theorem Ow.nexti {k : Value → World → Prop} {ty : TypeId} {r : Nat} {done : List α} (h : Ow S W0 W rs) (i : Nat) (hi : rs[i]? = some (.it r m enc encV kv done)) (K : KeyOK P kt enc)
    (h0 : (∀ p ∈ kv, p.1 ∈ done) → k (.tuple #[.bool false]) W)
    (h1 : ∀ a b W', (a, b) ∈ kv → a ∉ done → Ow S W0 W' (rs.set i (.it r m enc encV kv (a :: done))) → (Instr.entry (.pointer (some ⟨r, 0, none⟩))).run P W' = .ok (.tuple #[enc a, encV b]) W' → k (.tuple #[.bool true, enc a, encV b]) W') :
    RunW P (Instr.next (.pointer (some ⟨r, 0, none⟩)) false ty) W k := by
  rcases (h.get i hi : IterQ W r m enc encV kv done).next K ty with ⟨hd, hrun⟩ | ⟨p, hp, hnd, W', hrun, hf, hI, hen⟩
  · exact ⟨_, _, hrun, h0 hd⟩
  · exact ⟨_, _, hrun, h1 p.1 p.2 W' hp hnd (h.upd hi (hf.mono fun b _ e => .inr e) (.it r m enc encV kv (p.1 :: done)) hI fun b hb => .inl hb) hen⟩
theorem RunW.entry {s : Sem Value} {u : Value} {k : Value → World → Prop} (h : s.run P W = .ok u W) (hk : k u W) : RunW P s W k := ⟨_, _, h, hk⟩
theorem Ow.endi {r : Nat} {done : List α} (h : Ow S W0 W rs) (i : Nat) (hi : rs[i]? = some (.it r m enc encV kv done)) : Ow S W0 W (rs.set i (.mq m enc encV kv)) :=
  h.upd hi (Fr.refl _ _) (.mq m enc encV kv) (IterQ.map (h.get i hi)) fun b hb => .inl (.inl hb)
/-- A range over no map. -/
theorem Ow.rangen {k : Value → World → Prop} (h : Ow S W0 W rs) (ht : P.underlying mt = some (.map kt et)) (hk : ∀ r W', Ow S W0 W' rs → (∀ ty, (Instr.next (.pointer (some ⟨r, 0, none⟩)) false ty).run P W' = .ok (.tuple #[.bool false]) W') → k (.pointer (some ⟨r, 0, none⟩)) W') :
    RunW P (Instr.range mt (.map none)) W k :=
  ⟨_, _, run_range_nilMap W mt kt et ht, hk _ _ (h.more ((Below.refl _ W).alloc (Nat.le_refl _) _)) fun ty => run_next_nilMap W ty _ _ _⟩
end maps

/-! ### What is left to hand out -/
section left
variable {α β : Type} [DecidableEq α]
def nleft (kv : List (α × β)) (done : List α) : Nat := (kv.filter fun p => decide (p.1 ∉ done)).length
theorem nleft_lt {kv : List (α × β)} {done : List α} {a : α} {b : β} (h : (a, b) ∈ kv) (hd : a ∉ done) : nleft kv (a :: done) < nleft kv done := by
  unfold nleft
  exact filter_lt _ _ (fun x hx => by
    simp only [List.mem_cons, not_or, decide_eq_true_eq] at hx ⊢
    exact hx.2) (a, b) (by simpa using hd) (by simp) _ h
theorem nleft_del {kv : List (α × β)} {done : List α} (a : α) : nleft (kdel kv a) done ≤ nleft kv done := by
  exact ((List.filter_sublist (l := kv) (p := fun p => decide (p.1 ≠ a))).filter _).length_le
end left

/-! ### Slices that are made, and copied -/
section made
variable {α : Type} {P : Program} {t el : TypeId} {size : Nat} {enc : α → List Value} {S : Nat → Prop} {W0 W : World} {rs : List Res}
theorem Ow.make {n : Nat} {k : Value → World → Prop} (h : Ow S W0 W rs) (E : ElT P t el size enc) (hn : n ≤ 100000000000) (hk : ∀ b cs W', cs.length = n * size → Ow S W0 W' (.cl b cs el :: rs) → k (.slice (some ⟨b, 0, none⟩) n n) W') :
    RunW P (Instr.makeSlice t (.int .i64 (n : Int)) (.int .i64 (n : Int))) W k := by
  obtain ⟨i, z, hi, hz, hs, hzs, hb⟩ := E.inf
  have hby : (i.bytes : Int) * (n : Int) ≤ 281474976710656 := by
    have : i.bytes * n ≤ 1000 * 100000000000 := Nat.mul_le_mul hb hn
    have h2 : ((i.bytes * n : Nat) : Int) ≤ 281474976710656 := by omega
    rwa [Int.natCast_mul] at h2
  have hr := run_make (P := P) W t el i z E.ty hi hz .i64 .i64 n n (by omega) (Int.le_refl _) hby (by omega)
  simp only [Int.toNat_natCast] at hr
  refine ⟨_, _, hr, hk W.heap.size (madeCells z.cells (n * i.size)).toList _ (by rw [Array.length_toList, size_madeCells, hs]) (h.push ((Below.refl _ W).alloc (Nat.le_refl _) _) _ ?_ fun x hb => by cases hb; exact ⟨Nat.le_refl _, by simp⟩)⟩
  show (W.alloc _).heap[W.heap.size]? = _
  rw [alloc_same, Array.toArray_toList]
theorem Ow.copy {b : Nat} {cs : List Value} {l : List α} {a2 : Option Addr} {c2 : Nat} {ty : TypeId} {k : Value → World → Prop} (h : Ow S W0 W rs) (E : ElT P t el size enc) (i : Nat) (hi : rs[i]? = some (.cl b cs el)) (hcs : cs.length = l.length * size)
    (hr : RdL W size enc a2 l) (hl : l.length ≤ 100000000000) (hk : ∀ W', Ow S W0 W' (rs.set i (.sl el size enc (.slice (some ⟨b, 0, none⟩) l.length l.length) l)) → k (.int .i64 (l.length : Int)) W') :
    RunW P (Builtin.copy_ #[t, t] ty #[.slice (some ⟨b, 0, none⟩) l.length l.length, .slice a2 l.length c2]) W k := by
  obtain ⟨inf, z, hq, hz, hs, hzs, hbb⟩ := E.inf
  have hg : W.heap[b]? = some (.cells cs.toArray el (0, 0)) := h.get i hi
  have hfl := flat_len E.len l
  have hsl : ∀ W' : World, W'.heap[b]? = some (.cells (l.flatMap enc).toArray el (0, 0)) → SlR W' el size enc (.slice (some ⟨b, 0, none⟩) l.length l.length) l := fun W' hb =>
    SlR.mk E.len hb (Nat.le_refl _) (by have : (100000000000 : Nat) ≤ maxLen := by decide
                                        omega) (by simpa using hfl) (by simp only [List.take_of_length_le (Nat.le_of_eq hfl)])
  have hrun : ∃ W', (Builtin.copy_ #[t, t] ty #[.slice (some ⟨b, 0, none⟩) l.length l.length, .slice a2 l.length c2]).run P W = .ok (goInt l.length) W' ∧ Fr (fun x => x = b) W W' ∧ W'.heap[b]? = some (.cells (l.flatMap enc).toArray el (0, 0)) := by
    cases a2 with
    | none =>
      have hl0 := hr.1 rfl
      subst hl0
      have : cs = [] := List.eq_nil_of_length_eq_zero (by simpa using hcs)
      subst this
      exact ⟨W, by simp [Builtin.copy_, run_underlying E.ty, Builtin.lenOf, Builtin.firstCells, sizeOf, typeInfo, hq, storeCells], Fr.refl _ _, hg⟩
    | some p =>
      have hld := run_loadCells_list (P := P) (w := W) p (l.flatMap enc) fun j v hj => hr.2 p rfl j v hj
      have hst := run_storeCells_at P b 0 el (l.flatMap enc) 0 cs.toArray W hg (by simp [hfl, hcs]) fun v hv => by
        obtain ⟨x, _, hx⟩ := List.mem_flatMap.1 hv
        exact E.one x v hx
      have e1 : (cs.toArray.toList.take (0 + 0) ++ l.flatMap enc ++ cs.toArray.toList.drop (0 + 0 + (l.flatMap enc).length)).toArray = (l.flatMap enc).toArray := by
        simp [hfl, ← hcs]
      rw [e1] at hst
      rw [hfl] at hld
      refine ⟨W.setRow b (l.flatMap enc).toArray, by simp [Builtin.copy_, run_underlying E.ty, Builtin.lenOf, Builtin.firstCells, sizeOf, typeInfo, hq, hs, hld, hst], ?_, ?_⟩
      · refine ⟨rfl, rfl, rfl, by simp [World.setRow], fun x hx hne => ?_⟩
        exact setRow_other _ _ _ _ hne
      · exact setRow_heap W b cs.toArray _ el _ hg
  obtain ⟨W', h1, hf, hb⟩ := hrun
  exact ⟨_, _, h1, hk _ (h.upd hi hf (.sl el size enc (.slice (some ⟨b, 0, none⟩) l.length l.length) l) (hsl W' hb) fun x hx => by
    have : some b = some x := hx
    cases this; exact .inl rfl)⟩
end made
/-! ### Typed cells; ranges of numbers -/
theorem Typed.cons_inv {s : Lf} {ss : List Lf} {cs : List Value} (h : Typed (s :: ss) cs) : ∃ v r, cs = v :: r ∧ s.ok v ∧ Typed ss r := by
  cases cs with
  | nil => exact h.elim
  | cons v r => exact ⟨v, r, rfl, h.1, h.2⟩
theorem Typed.nil_inv {cs : List Value} (h : Typed [] cs) : cs = [] := by
  cases cs with
  | nil => rfl
  | cons v r => exact h.elim
theorem wf_iff {k : IntKind} {n lo hi : Int} (e1 : k.min = lo) (e2 : k.max = hi) : (Lit.int k n).wf = true ↔ lo ≤ n ∧ n ≤ hi := by
  show (decide (k.min ≤ n) && decide (n ≤ k.max)) = true ↔ _
  rw [e1, e2]
  simp
theorem wf_i64 {n : Int} : (Lit.int .i64 n).wf = true ↔ -9223372036854775808 ≤ n ∧ n ≤ 9223372036854775807 := wf_iff (by kernel_rfl) (by kernel_rfl)
theorem wf_u32 {n : Int} : (Lit.int .u32 n).wf = true ↔ 0 ≤ n ∧ n ≤ 4294967295 := wf_iff (by kernel_rfl) (by kernel_rfl)
theorem wf_u64 {n : Int} : (Lit.int .u64 n).wf = true ↔ 0 ≤ n ∧ n ≤ 18446744073709551615 := wf_iff (by kernel_rfl) (by kernel_rfl)
theorem wf_u8 {n : Int} : (Lit.int .u8 n).wf = true ↔ 0 ≤ n ∧ n ≤ 255 := wf_iff (by kernel_rfl) (by kernel_rfl)

/-! ### New blocks in a region that draws its order -/
section fresh
variable {S : Nat → Prop} {W0 W : World} {rs : List Res}
theorem Ow.anyNew {cells : List Value} {t : TypeId} {k : Addr → World → Prop} (h : Ow S W0 W rs) (hk : ∀ b W', Ow S W0 W' (.cl b cells t :: rs) → k ⟨b, 0, none⟩ W') :
    Any W fun W' => ∀ lo hi v, Fresh W.heap.size lo hi W' [] → IsNew cells.toArray t lo hi v W' → AsA v fun q => k q W' := fun W' hb lo hi v hF hN => by
  obtain ⟨rfl, hlt, hc⟩ := hN
  exact ⟨_, rfl, hk lo W' (h.push hb (.cl lo cells t) hc fun x hx => by cases hx; exact ⟨hF.1, Nat.lt_of_lt_of_le hlt hF.2.2.1⟩)⟩
end fresh
theorem If.or {b c : Bool} {K : Bool → Prop} (h : K (b || c)) : If b (K true) (K c) := by
  cases b with
  | true => exact h
  | false => exact h
theorem If.and {b c : Bool} {K : Bool → Prop} (h : K (b && c)) : If b (K c) (K false) := by
  cases b with
  | true => exact h
  | false => exact h
theorem inf_of {P : Program} {el : TypeId} {size : Nat} (h : (match P.info? el with | some i => (match i.zero with | some z => Nat.beq i.size size && (Nat.beq z.cells.size size && Nat.ble i.bytes 1000) | none => false) | none => false) = true) :
    ∃ i z, P.info? el = some i ∧ i.zero = some z ∧ i.size = size ∧ z.cells.size = size ∧ i.bytes ≤ 1000 := by
  split at h
  · rename_i i hi
    split at h
    · rename_i z hz
      simp only [Bool.and_eq_true] at h
      exact ⟨i, z, hi, hz, Nat.eq_of_beq_eq_true h.1, Nat.eq_of_beq_eq_true h.2.1, Nat.le_of_ble_eq_true h.2.2⟩
    · cases h
  · cases h
theorem RdL.getN {α : Type} {W : World} {size : Nat} {enc : α → List Value} {a : Option Addr} {l : List α} (he : ∀ x, (enc x).length = size) (h : RdL W size enc a l) {n : Nat} {i : Int} {j : Nat} {x : α} (hn : n = l.length) (hi : i = (j : Int)) (hx : l[j]? = some x) {o m : Nat} {cs : List Value} (hc : ((enc x).drop o).take m = cs) (hm : cs.length = m) {K : List Value → Prop} (hk : K cs) :
    IdxS a n i size fun q => LdNC W (q.add o) m K := by
  obtain ⟨p, rfl, hr⟩ := h.row he hx
  subst hn
  refine IdxS.mk hi (List.getElem?_eq_some_iff.1 hx).1 ⟨cs, hm, ?_, hk⟩
  rw [← hc]
  exact row_sub hr o m
theorem BldC.mk {zero : List Value} {ps : List (Nat × Nat × Value)} {k : Array Value → Prop} {cs : List Value} (hp : partsOk zero.length ps) (hc : splice zero ps = cs) (hk : k cs.toArray) : BldC zero ps k := ⟨hp, by rw [hc]; exact hk⟩
theorem addr_add2 (a : Addr) (m n : Nat) : (a.add m).add n = a.add (m + n) := by
  unfold Addr.add
  by_cases h : m = 0 <;> by_cases h' : n = 0 <;> simp [h, h', Nat.add_assoc]
theorem bool_eql {P : Program} {t : TypeId} (ht : P.underlying t = some .bool) {x y : Operand} {a b : Bool} {k : Value → Prop} (hk : k (.bool (a == b))) : RunP P (binRun .eql t x y (.bool a) (.bool b)) k :=
  ⟨_, fun w => by
    have := run_equalIn_bool' w 9999 t a b ht
    simp [binRun, eqGuard, binOp, Op.equal, Op.maxDepth, this], hk⟩
theorem bool_neq {P : Program} {t : TypeId} (ht : P.underlying t = some .bool) {x y : Operand} {a b : Bool} {k : Value → Prop} (hk : k (.bool (!(a == b)))) : RunP P (binRun .neq t x y (.bool a) (.bool b)) k :=
  ⟨_, fun w => by
    have := run_equalIn_bool' w 9999 t a b ht
    simp [binRun, eqGuard, binOp, Op.equal, Op.maxDepth, this], hk⟩
theorem Ow.skip {S : Nat → Prop} {W0 W : World} {rs : List Res} {r1 r2 : Res} (h : Ow S W0 W (r1 :: r2 :: rs)) : Ow S W0 W (r1 :: rs) := by
  have e : ∀ (i : Nat), (r1 :: rs)[i]? = (r1 :: r2 :: rs)[if i = 0 then 0 else i + 1]? := fun i => by
    cases i with
    | zero => rfl
    | succ i => simp
  refine ⟨h.fr, fun i r hi => h.ok _ r ((e i).symm.trans hi), fun i r b hi => h.lt _ r b ((e i).symm.trans hi), fun i j r r' b hi hj f1 f2 => ?_⟩
  have := h.dis _ _ r r' b ((e i).symm.trans hi) ((e j).symm.trans hj) f1 f2
  by_cases h1 : i = 0 <;> by_cases h2 : j = 0 <;> simp [h1, h2] at this ⊢
  exact this
theorem run_eq_map_nil {P : Program} {t kt et : TypeId} (d : Nat) (ht : P.underlying t = some (.map kt et)) (a : Option Nat) (w : World) : (Op.equalIn (d + 1) t (.map a) (.map none)).run P w = .ok a.isNone w := by
  unfold Op.equalIn
  cases a <;> simp [run_underlying' ht]
theorem nil_map_eql {P : Program} {t kt et : TypeId} {x : Operand} {a : Option Nat} {k : Value → Prop} (ht : P.underlying t = some (.map kt et)) (hk : k (.bool a.isNone)) : RunP P (binRun .eql t x (.const (.map none)) (.map a) (.map none)) k :=
  ⟨_, fun w => by
    have := run_eq_map_nil (d := 9999) ht a w
    cases a <;> simp [binRun, eqGuard, binOp, Op.equal, Op.maxDepth, this], hk⟩
theorem kset_mem {α β : Type} [DecidableEq α] {kv : List (α × β)} {a : α} {b : β} {x : α × β} (h : x ∈ kset kv a b) : x = (a, b) ∨ x ∈ kv := by
  unfold kset at h
  split at h
  · obtain ⟨y, hy, rfl⟩ := List.mem_map.1 h
    split
    · exact .inl rfl
    · exact .inr hy
  · rcases List.mem_append.1 h with h | h
    · exact .inr h
    · exact .inl (List.mem_singleton.1 h)
theorem kget_map {α β γ : Type} [DecidableEq α] (f : β → γ) (kv : List (α × β)) (a : α) : kget (kv.map fun x => (x.1, f x.2)) a = (kget kv a).map f := by
  unfold kget
  induction kv with
  | nil => rfl
  | cons x kv ih =>
    simp only [List.map_cons, List.find?_cons]
    by_cases h : x.1 = a
    · simp [h]
    · simp only [h, decide_false]; exact ih
theorem kset_map {α β γ : Type} [DecidableEq α] (f : β → γ) (kv : List (α × β)) (a : α) (b : β) : (kset kv a b).map (fun x => (x.1, f x.2)) = kset (kv.map fun x => (x.1, f x.2)) a (f b) := by
  unfold kset
  rw [kget_map]
  have e : ((kget kv a).map f).isSome = (kget kv a).isSome := by cases kget kv a <;> rfl
  rw [e]
  split
  · rw [List.map_map, List.map_map]
    apply List.map_congr_left
    intro x _
    simp only [Function.comp]
    split <;> rfl
  · rw [List.map_append]; rfl
theorem kdel_map {α β γ : Type} [DecidableEq α] (f : β → γ) (kv : List (α × β)) (a : α) : (kdel kv a).map (fun x => (x.1, f x.2)) = kdel (kv.map fun x => (x.1, f x.2)) a := by
  unfold kdel
  rw [List.filter_map]
  rfl
end Go.Vc
