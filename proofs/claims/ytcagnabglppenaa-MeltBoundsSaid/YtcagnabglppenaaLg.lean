/- What a walk owns, block by block, in one hypothesis. -/
import Derived.Test.YtcagnabglppenaaLf
namespace Go.Vc
open Go Go.RowKit

/-- Blocks that hold something: whatever keeps these blocks, keeps it. -/
structure Res where
  foot : Nat → Prop
  ok : World → Prop
  st : ∀ {T : Nat → Prop} {W W' : World}, Fr T W W' → (∀ b, foot b → ¬ T b) → ok W → ok W'
def Res.cl (b : Nat) (c : List Value) (t : TypeId) : Res := ⟨fun x => x = b, fun W => W.heap[b]? = some (.cells c.toArray t (0, 0)), fun hf h k => hf.at (h b rfl) k⟩
def Res.sl {α : Type} (el : TypeId) (size : Nat) (enc : α → List Value) (v : Value) (l : List α) : Res := ⟨fun g => v.ownBlock = some g, fun W => SlR W el size enc v l, fun hf h k => k.fr hf h⟩
def Res.mp {α β : Type} (m : Nat) (enc : α → Value) (encV : β → Value) (f : α → Option β) : Res := ⟨fun x => x = m, fun W => MapR W m enc encV f, fun hf h k => k.of_heap (hf.blk m k.lt (h m rfl))⟩
structure Ow (S : Nat → Prop) (W0 W : World) (rs : List Res) : Prop where
  fr : Fr S W0 W
  ok : ∀ (i : Nat) (r : Res), rs[i]? = some r → r.ok W
  lt : ∀ (i : Nat) (r : Res) (b : Nat), rs[i]? = some r → r.foot b → b < W.heap.size ∧ (S b ∨ W0.heap.size ≤ b)
  dis : ∀ (i j : Nat) (r r' : Res) (b : Nat), rs[i]? = some r → rs[j]? = some r' → r.foot b → r'.foot b → i = j
abbrev NoS : Nat → Prop := fun _ => False
section
variable {S : Nat → Prop} {W0 W W' : World} {rs : List Res}
theorem Ow.start (S : Nat → Prop) (W : World) : Ow S W W [] := ⟨Fr.refl _ _, fun i r h => by simp at h, fun i r b h => by simp at h, fun i j r r' b h => by simp at h⟩
theorem Ow.bel (h : Ow NoS W0 W rs) : Below W0.heap.size W0 W := h.fr.below
theorem Ow.size (h : Ow S W0 W rs) : W0.heap.size ≤ W.heap.size := h.fr.size
theorem Ow.get {r : Res} (h : Ow S W0 W rs) (i : Nat) (hi : rs[i]? = some r) : r.ok W := h.ok i r hi
theorem Ow.more (h : Ow S W0 W rs) (hb : Below W.heap.size W W') : Ow S W0 W' rs :=
  ⟨h.fr.trans (frOf hb), fun i r hi => r.st (frOf (S := fun _ => False) hb) (fun _ _ hf => hf) (h.ok i r hi), fun i r b hi hf => ⟨Nat.lt_of_lt_of_le (h.lt i r b hi hf).1 hb.size, (h.lt i r b hi hf).2⟩, h.dis⟩
theorem Ow.push (h : Ow S W0 W rs) (hb : Below W.heap.size W W') (r : Res) (ok : r.ok W') (hr : ∀ b, r.foot b → W.heap.size ≤ b ∧ b < W'.heap.size) : Ow S W0 W' (r :: rs) := by
  have hm := h.more hb
  refine ⟨hm.fr, fun i r' hi => ?_, fun i r' b hi hf => ?_, fun i j r1 r2 b h1 h2 f1 f2 => ?_⟩
  · cases i with
    | zero => simp at hi; subst hi; exact ok
    | succ i => exact hm.ok i r' (by simpa using hi)
  · cases i with
    | zero => simp at hi; subst hi; exact ⟨(hr b hf).2, .inr (Nat.le_trans h.size (hr b hf).1)⟩
    | succ i => exact hm.lt i r' b (by simpa using hi) hf
  · cases i with
    | zero =>
      simp at h1; subst h1
      cases j with
      | zero => rfl
      | succ j => have := (h.lt j r2 b (by simpa using h2) f2).1; have := (hr b f1).1; omega
    | succ i =>
      cases j with
      | zero => simp at h2; subst h2; have := (h.lt i r1 b (by simpa using h1) f1).1; have := (hr b f2).1; omega
      | succ j => rw [hm.dis i j r1 r2 b (by simpa using h1) (by simpa using h2) f1 f2]
theorem Ow.upd {i : Nat} {r : Res} (h : Ow S W0 W rs) (hi : rs[i]? = some r) (hf : Fr r.foot W W') (r' : Res) (ok : r'.ok W') (hr : ∀ b, r'.foot b → r.foot b ∨ (W.heap.size ≤ b ∧ b < W'.heap.size)) : Ow S W0 W' (rs.set i r') := by
  have hil : i < rs.length := (List.getElem?_eq_some_iff.1 hi).1
  have hz := hf.size
  refine ⟨h.fr.trans' hf fun b hb hlt => (h.lt i r b hi hb).2.resolve_right (by omega), fun j r1 hj => ?_, fun j r1 b hj hb => ?_, fun j k r1 r2 b h1 h2 f1 f2 => ?_⟩
  · by_cases e : i = j
    · subst e
      rw [List.getElem?_set_self hil] at hj
      cases hj; exact ok
    · rw [List.getElem?_set_ne e] at hj
      exact r1.st hf (fun b hb hrb => e (h.dis i j r r1 b hi hj hrb hb)) (h.ok j r1 hj)
  · by_cases e : i = j
    · subst e
      rw [List.getElem?_set_self hil] at hj
      cases hj
      rcases hr b hb with h1 | h1
      · have := h.lt i r b hi h1; exact ⟨by omega, this.2⟩
      · have := h.size; exact ⟨h1.2, .inr (by omega)⟩
    · rw [List.getElem?_set_ne e] at hj
      have := h.lt j r1 b hj hb; exact ⟨by omega, this.2⟩
  · have hold : ∀ (j : Nat) (r1 : Res) (b : Nat), (rs.set i r')[j]? = some r1 → r1.foot b → b < W.heap.size → ∃ r3 : Res, rs[j]? = some r3 ∧ r3.foot b := fun j r1 b hj hb hlt => by
      by_cases e : i = j
      · subst e
        rw [List.getElem?_set_self hil] at hj
        cases hj
        exact ⟨r, hi, (hr b hb).resolve_right (by omega)⟩
      · rw [List.getElem?_set_ne e] at hj; exact ⟨r1, hj, hb⟩
    have hnew : ∀ (j : Nat) (r1 : Res) (b : Nat), (rs.set i r')[j]? = some r1 → r1.foot b → W.heap.size ≤ b → j = i := fun j r1 b hj hb hlt => by
      by_cases e : i = j
      · exact e.symm
      · rw [List.getElem?_set_ne e] at hj
        have := (h.lt j r1 b hj hb).1; omega
    rcases Nat.lt_or_ge b W.heap.size with hlt | hge
    · obtain ⟨r3, h3, f3⟩ := hold j r1 b h1 f1 hlt
      obtain ⟨r4, h4, f4⟩ := hold k r2 b h2 f2 hlt
      exact h.dis j k r3 r4 b h3 h4 f3 f4
    · rw [hnew j r1 b h1 f1 hge, hnew k r2 b h2 f2 hge]
/-- Some of what is owned, in another order. -/
theorem Ow.pick {rs' : List Res} (h : Ow S W0 W rs) (js : List Nat) (hn : js.Nodup) (hm : js.map (fun j => rs[j]?) = rs'.map some) : Ow S W0 W rs' := by
  have key : ∀ (i : Nat) (r : Res), rs'[i]? = some r → ∃ j : Nat, js[i]? = some j ∧ rs[j]? = some r := fun i r hi => by
    have e : (js.map (fun j => rs[j]?))[i]? = (rs'.map some)[i]? := by rw [hm]
    rw [List.getElem?_map, List.getElem?_map, hi] at e
    cases hj : js[i]? with
    | none => rw [hj] at e; cases e
    | some j => rw [hj] at e; exact ⟨j, rfl, by simpa using e⟩
  refine ⟨h.fr, fun i r hi => ?_, fun i r b hi hb => ?_, fun i j r r' b h1 h2 f1 f2 => ?_⟩
  · obtain ⟨j, _, hj⟩ := key i r hi; exact h.ok j r hj
  · obtain ⟨j, _, hj⟩ := key i r hi; exact h.lt j r b hj hb
  · obtain ⟨i', e1, g1⟩ := key i r h1
    obtain ⟨j', e2, g2⟩ := key j r' h2
    have := h.dis i' j' r r' b g1 g2 f1 f2
    subst this
    have l1 := (List.getElem?_eq_some_iff.1 e1)
    have l2 := (List.getElem?_eq_some_iff.1 e2)
    rcases Nat.lt_trichotomy i j with h | h | h
    · exact absurd (l1.2.trans l2.2.symm) (List.pairwise_iff_getElem.1 hn i j l1.1 l2.1 h)
    · exact h
    · exact absurd (l2.2.trans l1.2.symm) (List.pairwise_iff_getElem.1 hn j i l2.1 l1.1 h)
theorem Ow.nil {α : Type} (h : Ow S W0 W rs) (el : TypeId) (size : Nat) (enc : α → List Value) : Ow S W0 W (.sl el size enc (.slice none 0 0) [] :: rs) :=
  h.push (Below.refl _ _) _ (SlR.nil _ _) fun b hb => by cases hb
/-- What is there already, and apart from what is owned. -/
theorem Ow.take (h : Ow S W0 W rs) (r : Res) (ok : r.ok W) (hr : ∀ b, r.foot b → b < W.heap.size ∧ (S b ∨ W0.heap.size ≤ b)) (hd : ∀ (i : Nat) (r' : Res) (b : Nat), rs[i]? = some r' → r'.foot b → ¬ r.foot b) : Ow S W0 W (r :: rs) := by
  refine ⟨h.fr, fun i r' hi => ?_, fun i r' b hi hf => ?_, fun i j r1 r2 b h1 h2 f1 f2 => ?_⟩
  · cases i with
    | zero => simp at hi; subst hi; exact ok
    | succ i => exact h.ok i r' (by simpa using hi)
  · cases i with
    | zero => simp at hi; subst hi; exact hr b hf
    | succ i => exact h.lt i r' b (by simpa using hi) hf
  · cases i with
    | zero =>
      simp at h1; subst h1
      cases j with
      | zero => rfl
      | succ j => exact absurd f1 (hd j r2 b (by simpa using h2) f2)
    | succ i =>
      cases j with
      | zero => simp at h2; subst h2; exact absurd f2 (hd i r1 b (by simpa using h1) f1)
      | succ j => rw [h.dis i j r1 r2 b (by simpa using h1) (by simpa using h2) f1 f2]

/-! ### Steps -/
theorem Ow.new {cells : List Value} {t : TypeId} {k : Addr → World → Prop} (h : Ow S W0 W rs) (hk : ∀ b W', Ow S W0 W' (.cl b cells t :: rs) → k ⟨b, 0, none⟩ W') : NewA cells.toArray t W k :=
  NewA.mk fun b W' h1 hb hs hbl => hk b W' (h.push hbl _ h1 fun x hx => by cases hx; omega)
theorem Ow.news {tot : Nat} {zero : List Value} {ps : List (Nat × Nat × Value)} {t : TypeId} {k : Addr → World → Prop} {cs : List Value} (h : Ow S W0 W rs) (hp : partsOk tot ps) (hc : splice zero ps = cs) (hk : ∀ b W', Ow S W0 W' (.cl b cs t :: rs) → k ⟨b, 0, none⟩ W') : NewSC tot zero ps t W k :=
  NewSC.mk hp (cs := cs.toArray) (by rw [hc]) fun b W' h1 hb hs hbl => hk b W' (h.push hbl _ h1 fun x hx => by cases hx; omega)
theorem Ow.newm {α β : Type} {k : Nat → World → Prop} (h : Ow S W0 W rs) (enc : α → Value) (encV : β → Value) (hk : ∀ m W', Ow S W0 W' (.mp m enc encV (fun _ => none) :: rs) → k m W') : NewM W k :=
  NewM.mk fun m W' h1 hm hs hbl => hk m W' (h.push hbl _ ⟨#[], 0, h1, by simp, by simp, by simp⟩ fun x hx => by cases hx; omega)
theorem Ow.any {k : World → Prop} (h : Ow S W0 W rs) (hk : ∀ W', Ow S W0 W' rs → k W') : Any W k := fun W' hb => hk W' (h.more hb)
section cl
variable {b : Nat} {c : List Value} {t : TypeId}
theorem Ow.ld {u : Value} {k : Value → Prop} (h : Ow S W0 W rs) (i : Nat) (hi : rs[i]? = some (.cl b c t)) (hu : c[0]? = some u) (hk : k u) : Ld1 W ⟨b, 0, none⟩ k :=
  Ld1.mk (h.get i hi) (by simpa using hu) hk
theorem Ow.ldA {n : Nat} {u : Value} {k : Value → Prop} (h : Ow S W0 W rs) (i : Nat) (hi : rs[i]? = some (.cl b c t)) (hu : c[n]? = some u) (hk : k u) : Ld1 W (Addr.add ⟨b, 0, none⟩ n) k :=
  Ld1.ad (h.get i hi) (by simpa using hu) hk
theorem Ow.ldw {n : Nat} {k : List Value → Prop} (h : Ow S W0 W rs) (i : Nat) (hi : rs[i]? = some (.cl b c t)) (hn : c.length = n) (hk : k c) : LdNC W ⟨b, 0, none⟩ n k :=
  LdNC.mk (h.get i hi) hn (by rw [← hn]; simp) hk
theorem Ow.ldp {n j : Nat} {cs : List Value} {k : List Value → Prop} (h : Ow S W0 W rs) (i : Nat) (hi : rs[i]? = some (.cl b c t)) (hc : (c.drop j).take n = cs) (hn : cs.length = n) (hk : k cs) : LdNC W (Addr.add ⟨b, 0, none⟩ j) n k :=
  LdNC.ad (h.get i hi) hn (by simpa using hc) hk
theorem Ow.ldp0 {n : Nat} {cs : List Value} {k : List Value → Prop} (h : Ow S W0 W rs) (i : Nat) (hi : rs[i]? = some (.cl b c t)) (hc : c.take n = cs) (hn : cs.length = n) (hk : k cs) : LdNC W ⟨b, 0, none⟩ n k :=
  LdNC.mk (h.get i hi) hn (by simpa using hc) hk
theorem Ow.stl {u : Value} {k : Prop} (h : Ow S W0 W rs) (i : Nat) (hi : rs[i]? = some (.cl b c t)) (hu : c[0]? = some u) (hk : k) : StL W ⟨b, 0, none⟩ u k :=
  StL.mk (h.get i hi) (by simpa using hu) hk
theorem Ow.stlA {n : Nat} {u : Value} {k : Prop} (h : Ow S W0 W rs) (i : Nat) (hi : rs[i]? = some (.cl b c t)) (hu : c[n]? = some u) (hk : k) : StL W (Addr.add ⟨b, 0, none⟩ n) u k :=
  StL.ad (h.get i hi) (by simpa using hu) hk
theorem Ow.stn {n : Nat} {k : Prop} (h : Ow S W0 W rs) (i : Nat) (hi : rs[i]? = some (.cl b c t)) (hn : c.length = n) (hk : k) : StN W ⟨b, 0, none⟩ c.toArray n k :=
  StN.mk (h.get i hi) (by simpa using hn) (by rw [← hn]; simp) hk
theorem Ow.stnp {n j : Nat} {cs : List Value} {k : Prop} (h : Ow S W0 W rs) (i : Nat) (hi : rs[i]? = some (.cl b c t)) (hc : (c.drop j).take n = cs) (hn : cs.length = n) (hk : k) : StN W (Addr.add ⟨b, 0, none⟩ j) cs.toArray n k :=
  StN.ad (h.get i hi) (by simpa using hn) (by simpa using hc) hk
theorem Ow.stw {n : Nat} {cs : List Value} {k : World → Prop} (h : Ow S W0 W rs) (i : Nat) (hi : rs[i]? = some (.cl b c t)) (hc : c.length = n) (hn : cs.length = n) (h1 : cs.all oneC = true) (hk : ∀ W', Ow S W0 W' (rs.set i (.cl b cs t)) → k W') : StV n W ⟨b, 0, none⟩ (.agg cs.toArray) k := by
  refine StV.to (h.get i hi) (by simpa [Value.cells] using hn) (by simp [hc]) (by simpa [Value.cells] using h1) (cs := cs.toArray) (by simp [Value.cells, ← hc]) fun W' h2 hs hf => ?_
  exact hk W' (h.upd hi hf _ h2 fun x hx => .inl hx)
theorem Ow.st1 {j : Nat} {v : Value} {k : World → Prop} (h : Ow S W0 W rs) (i : Nat) (hi : rs[i]? = some (.cl b c t)) (c' : List Value) (hc : c.set j v = c') (hv : v.cells = #[v]) (h1 : oneC v = true) (hlt : j < c.length) (hk : ∀ W', Ow S W0 W' (rs.set i (.cl b c' t)) → k W') : StV 1 W (Addr.add ⟨b, 0, none⟩ j) v k := by
  refine StV.ad1 (h.get i hi) hv (by simpa using hlt) h1 fun W' h2 hs hf => ?_
  refine hk W' (h.upd hi hf _ ?_ fun x hx => .inl hx)
  subst hc
  simpa [Res.cl] using h2
theorem Ow.st0 {v : Value} {k : World → Prop} (h : Ow S W0 W rs) (i : Nat) (hi : rs[i]? = some (.cl b c t)) (c' : List Value) (hc : c.set 0 v = c') (hv : v.cells = #[v]) (h1 : oneC v = true) (hlt : 0 < c.length) (hk : ∀ W', Ow S W0 W' (rs.set i (.cl b c' t)) → k W') : StV 1 W ⟨b, 0, none⟩ v k := by
  refine StV.to1 (h.get i hi) hv (by simpa using hlt) h1 fun W' h2 hs hf => ?_
  refine hk W' (h.upd hi hf _ ?_ fun x hx => .inl hx)
  subst hc
  simpa [Res.cl] using h2
theorem Ow.stp {j n : Nat} {cs : List Value} {k : World → Prop} (h : Ow S W0 W rs) (i : Nat) (hi : rs[i]? = some (.cl b c t)) (c' : List Value) (hc : c.take j ++ cs ++ c.drop (j + n) = c') (hn : cs.length = n) (h1 : cs.all oneC = true) (hlt : j + n ≤ c.length) (hk : ∀ W', Ow S W0 W' (rs.set i (.cl b c' t)) → k W') : StV n W (Addr.add ⟨b, 0, none⟩ j) (.agg cs.toArray) k := by
  refine StV.ad (h.get i hi) (by simpa [Value.cells] using hn) (by simpa using hlt) (by simpa [Value.cells] using h1) (cs := c'.toArray) (by simp [Value.cells, ← hc]) fun W' h2 hs hf => ?_
  exact hk W' (h.upd hi hf _ h2 fun x hx => .inl hx)
end cl

/-! ### Calls -/
section call
variable {P : Program} {f : FuncId} {args : Array Value} {kp : List PanicEntry → World → Prop} {k : Value → World → Prop}
theorem Ow.callv {v : Value} (h : Ow S W0 W rs) (hg : Gives P f args W fun u W' => u = v ∧ Below W.heap.size W W') (hk : ∀ W', Ow S W0 W' rs → k v W') : CallK P f args W kp k :=
  CallK.mk hg fun u W' hu => by rw [hu.1]; exact hk W' (h.more hu.2)
theorem Ow.call {Q : Value → World → Prop} (h : Ow S W0 W rs) (hg : Gives P f args W fun u W' => Q u W' ∧ Below W.heap.size W W') (hk : ∀ u W', Q u W' → Ow S W0 W' rs → k u W') : CallK P f args W kp k :=
  CallK.mk hg fun u W' hu => hk u W' hu.1 (h.more hu.2)
/-- A new slice. -/
def NewSl {α : Type} (W : World) (el : TypeId) (size : Nat) (enc : α → List Value) (l : List α) (v : Value) (W' : World) : Prop :=
  ∃ a c, v = .slice a l.length c ∧ SlR W' el size enc v l ∧ ∀ g, v.ownBlock = some g → W.heap.size ≤ g
theorem Ow.newsl {α : Type} {el : TypeId} {size : Nat} {enc : α → List Value} {l : List α} {v : Value} (h : Ow S W0 W rs) (hb : Below W.heap.size W W') (hs : SlR W' el size enc v l) (ho : ∀ g, v.ownBlock = some g → W.heap.size ≤ g) : Ow S W0 W' (.sl el size enc v l :: rs) :=
  h.push hb _ hs fun b hf => ⟨ho b hf, hs.lt hf⟩
theorem Ow.calls {α : Type} {el : TypeId} {size : Nat} {enc : α → List Value} {l : List α} (h : Ow S W0 W rs) (hg : Gives P f args W fun u W' => NewSl W el size enc l u W' ∧ Below W.heap.size W W') (hk : ∀ a c W', Ow S W0 W' (.sl el size enc (.slice a l.length c) l :: rs) → k (.slice a l.length c) W') : CallK P f args W kp k :=
  CallK.mk hg fun u W' hu => by
    obtain ⟨⟨a, c, rfl, hs, ho⟩, hb⟩ := hu
    exact hk a c W' (h.newsl hb hs ho)
theorem Ow.yieldv {lb rb : Array Value} {v : Value} (h : Ow S W0 W rs) (hc : Ok P f) (hg : Gives P f (lb ++ args ++ rb) W fun u W' => u = v ∧ Below W.heap.size W W') (hk : ∀ W', Ow S W0 W' rs → k v W') :
    YieldK P (callSem (.func (.func f) lb rb) args) W kp k :=
  YieldK.func hc hg fun u W' hu => by rw [hu.1]; exact hk W' (h.more hu.2)
end call

/-! ### Slices -/
structure ElT {α : Type} (P : Program) (t el : TypeId) (size : Nat) (enc : α → List Value) : Prop where
  len : ∀ a, (enc a).length = size
  one : ∀ a, ∀ u ∈ enc a, u.oneCell' = true
  ty : P.underlying t = some (.slice el)
  inf : ∃ i z, P.info? el = some i ∧ i.zero = some z ∧ i.size = size ∧ z.cells.size = size ∧ i.bytes ≤ 1000
  pos : 0 < size
section sl
variable {α : Type} {P : Program} {t el : TypeId} {size : Nat} {enc : α → List Value} {a : Option Addr} {n c : Nat} {l : List α}
theorem ElT.bound {i : TypeInfo} {m : Nat} (hb : i.bytes ≤ 1000) (hm : m ≤ 100000000000) : m * i.bytes ≤ 140737488355328 ∧ m ≤ maxLen :=
  ⟨Nat.le_trans (Nat.mul_le_mul hm hb) (by decide), Nat.le_trans hm (by decide)⟩
theorem Ow.app {W1 : World} {x : List α} {v' : Value} (h : Ow S W0 W rs) (i : Nat) (hi : rs[i]? = some (.sl el size enc (.slice a n c) l)) (hg : W.grownBy W1 (Value.slice a n c).ownBlock) (hs : SlR W1 el size enc v' x) (ho : v'.ownBlock = (Value.slice a n c).ownBlock ∨ v'.ownBlock = some W.heap.size) :
    Ow S W0 W1 (rs.set i (.sl el size enc v' x)) :=
  h.upd hi (Fr.grown hg fun k hk => hk) _ hs fun b hb => by
    rcases ho with e | e
    · have hb' : v'.ownBlock = some b := hb
      rw [e] at hb'; exact .inl hb'
    · have hb' : v'.ownBlock = some b := hb
      rw [e] at hb'; cases hb'
      exact .inr ⟨Nat.le_refl _, hs.lt e⟩
/-- append of one. -/
theorem Ow.app1 {q : Nat} {d : α} {t' ty : TypeId} {k : Value → World → Prop} (h : Ow S W0 W rs) (E : ElT P t el size enc) (i j : Nat) (hi : rs[i]? = some (.sl el size enc (.slice a n c) l)) (hj : rs[j]? = some (.cl q (enc d) t')) (hl : l.length + 1 ≤ 100000000000) (hk : ∀ a' c' W', Ow S W0 W' (rs.set i (.sl el size enc (.slice a' (l ++ [d]).length c') (l ++ [d]))) → k (.slice a' (l ++ [d]).length c') W') :
    RunW P (Builtin.append_ #[t, t] ty #[.slice a n c, .slice (some ⟨q, 0, none⟩) 1 1]) W k := by
  obtain ⟨inf, z, hi1, hz, hsz, hzs, hby⟩ := E.inf
  have hs : SlR W el size enc (.slice a n c) l := h.get i hi
  have hq : W.heap[q]? = some (.cells (enc d).toArray t' (0, 0)) := h.get j hj
  have hb := ElT.bound (m := l.length + [d].length) hby hl
  obtain ⟨v', W', hrun, hs', hgr, hown⟩ := hs.append (P := P) (ty := ty) (ys := [d]) (c := 1) (a := ⟨q, 0, none⟩) E.len E.one E.ty hi1 hz hsz rfl hzs E.pos (cells_row (by simpa using hq)) hb.1 hb.2
  obtain ⟨a', c', hv'⟩ := hs'.shape
  subst hv'
  exact ⟨_, W', hrun, hk a' c' W' (h.app i hi hgr hs' hown)⟩
/-- append of many. -/
theorem Ow.appR {ty : TypeId} {a2 : Option Addr} {n2 c2 : Nat} {ys : List α} {k : Value → World → Prop} (h : Ow S W0 W rs) (E : ElT P t el size enc) (i : Nat) (hi : rs[i]? = some (.sl el size enc (.slice a n c) l)) (hr : RdL W size enc a2 ys) (hn : n2 = ys.length) (hl : l.length + ys.length ≤ 100000000000) (hk : ∀ a' c' W', Ow S W0 W' (rs.set i (.sl el size enc (.slice a' (l ++ ys).length c') (l ++ ys))) → k (.slice a' (l ++ ys).length c') W') :
    RunW P (Builtin.append_ #[t, t] ty #[.slice a n c, .slice a2 n2 c2]) W k := by
  obtain ⟨inf, z, hi1, hz, hsz, hzs, hby⟩ := E.inf
  have hs : SlR W el size enc (.slice a n c) l := h.get i hi
  have hb := ElT.bound (m := l.length + ys.length) hby hl
  obtain ⟨v', W', hrun, hs', hgr, hown⟩ := hs.appendR (P := P) (ty := ty) (n := n2) (c := c2) E.len E.one E.ty hi1 hz hsz rfl hzs E.pos hr hn hb.1 hb.2
  obtain ⟨a', c', hv'⟩ := hs'.shape
  subst hv'
  exact ⟨_, W', hrun, hk a' c' W' (h.app i hi hgr hs' hown)⟩
theorem Ow.rd (h : Ow S W0 W rs) (i : Nat) (hi : rs[i]? = some (.sl el size enc (.slice a n c) l)) : RdL W size enc a l := SlR.rd (h.get i hi)
theorem Ow.len (h : Ow S W0 W rs) (i : Nat) (hi : rs[i]? = some (.sl el size enc (.slice a n c) l)) : n = l.length := SlR.len (h.get i hi)
theorem Ow.cap (h : Ow S W0 W rs) (i : Nat) (hi : rs[i]? = some (.sl el size enc (.slice a n c) l)) : l.length ≤ c := SlR.cap (h.get i hi)
/-- l[j] = y. -/
theorem Ow.sset {x : Int} {j : Nat} {y : α} {K : World → Prop} (h : Ow S W0 W rs) (E : ElT P t el size enc) (i : Nat) (hi : rs[i]? = some (.sl el size enc (.slice a n c) l)) (hx : x = (j : Int)) (hj : j < l.length) (h1 : (enc y).all oneC = true) (hk : ∀ W', Ow S W0 W' (rs.set i (.sl el size enc (.slice a n c) (l.set j y))) → K W') : IdxS a n x size fun q => StV size W q (.agg (enc y).toArray) K := by
  have hs : SlR W el size enc (.slice a n c) l := h.get i hi
  have e := hs.len; subst e
  obtain ⟨g, cap, cur, hv, hg, h2, h3, h4, h5⟩ := hs.cells (by intro e; subst e; simp at hj)
  cases hv
  have hle : j * size + size ≤ cur.size := by
    rw [h4]
    have : (j + 1) * size ≤ c * size := Nat.mul_le_mul_right _ (by omega)
    rwa [Nat.add_mul, Nat.one_mul] at this
  obtain ⟨hs1, hs2⟩ := row_set E.len y h2 h4 h5 hj
  refine IdxS.mk hx hj ?_
  refine StV.ad hg (v := .agg (enc y).toArray) (by simpa [Value.cells] using E.len y) (by omega) (by simpa [Value.cells] using h1) (cs := (cur.toList.take (j * size) ++ enc y ++ cur.toList.drop (j * size + size)).toArray) (by simp [Value.cells]) fun W' hg' _ hf => ?_
  have hs' := SlR.mk (l := l.set j y) E.len hg' (by simpa using h2) h3 hs1 hs2
  rw [List.length_set] at hs'
  exact hk W' (h.upd hi (hf.mono fun b _ hb => by rw [hb]; rfl) _ hs' fun b hb => .inl hb)
end sl
end

theorem NilP.mk {q : Addr} {k : Addr → Prop} (h : k q) : NilP (some q) k := h
theorem Ow.out {W0 W : World} {rs : List Res} {α : Type} {el : TypeId} {size : Nat} {enc : α → List Value} {a : Option Addr} {n c : Nat} {l : List α} (h : Ow NoS W0 W rs) (i : Nat) (hi : rs[i]? = some (.sl el size enc (.slice a n c) l)) : NewSl W0 el size enc l (.slice a n c) W ∧ Below W0.heap.size W0 W :=
  ⟨⟨a, c, by rw [h.len i hi], h.get i hi, fun g hg => (h.lt i _ g hi hg).2.resolve_left id⟩, h.bel⟩

/-! ### Function values -/
/-- A function value that tells of each item of l, yes or no, while r stands. -/
def Fn1 {α : Type} (P : Program) (fv : Value) (r : Res) (enc : α → List Value) (p : α → Bool) (l : List α) : Prop :=
  ∀ (W : World) (x : α) (kp : List PanicEntry → World → Prop) (K : Value → World → Prop), x ∈ l → r.ok W → (∀ W', Below W.heap.size W W' → K (.bool (p x)) W') → YieldK P (callSem fv #[.agg (enc x).toArray]) W kp K
theorem Res.bel {r : Res} {W W' : World} (h : r.ok W) (hb : Below W.heap.size W W') : r.ok W' := r.st (frOf (S := fun _ => False) hb) (fun _ _ hf => hf) h
def Res.no : Res := ⟨fun _ => False, fun _ => True, fun _ _ h => h⟩
/-- Where the first is of which p is true; -1. -/
def idxI {α : Type} (l : List α) (p : α → Bool) : Int := match l.findIdx? p with | some i => (i : Int) | none => -1
theorem zcells_len {z : Array Value} {size n : Nat} (hz : z.size = size) : (Builtin.zeroCells z n).toList.length = n * size := by simp [Builtin.zeroCells, hz]
theorem zcells_one {z : Array Value} {n : Nat} (h0 : 0 < z.size) (h : z.toList.all oneC = true) : (Builtin.zeroCells z n).toList.all oneC = true := by
  rw [List.all_eq_true] at *
  intro x hx
  simp only [Builtin.zeroCells, Array.toList_map, Array.toList_range, List.mem_map, List.mem_range] at hx
  obtain ⟨i, _, rfl⟩ := hx
  have : i % z.size < z.size := Nat.mod_lt _ h0
  refine h _ ?_
  rw [getElem!_pos z (i % z.size) this]
  simp
section
variable {S : Nat → Prop} {W0 W : World} {rs : List Res} {α : Type} {P : Program} {t el : TypeId} {size : Nat} {enc : α → List Value} {a : Option Addr} {n c : Nat} {l : List α}
/-- clear of what lies behind the first j. -/
theorem Ow.clearTail {j : Nat} {z : Value} {k : Value → World → Prop} (h : Ow S W0 W rs) (E : ElT P t el size enc) (i : Nat) (hi : rs[i]? = some (.sl el size enc (.slice a n c) l)) (hj : j ≤ l.length) (hz : ∀ w, (zeroValue el).run P w = .ok z w) (hzs : z.cells.size = size) (h1 : z.cells.toList.all oneC = true)
    (hk : ∀ W', Ow S W0 W' (rs.set i (.sl el size enc (.slice a j c) (l.take j))) → k (.tuple #[]) W') :
    RunW P (Builtin.clear_ #[t] 0 #[.slice (if c = j then a else Option.map (fun z => Addr.add z (j * size)) a) (n - j) (c - j)]) W k := by
  have hs : SlR W el size enc (.slice a n c) l := h.get i hi
  have e := hs.len; subst e
  rcases Nat.lt_or_ge j l.length with hlt | hge
  · obtain ⟨g, cap, cur, hv, hg, h2, h3, h4, h5⟩ := hs.cells (by intro e; subst e; simp at hlt)
    cases hv
    rw [if_neg (by omega)]
    have hm : (l.length - j) * size = l.length * size - j * size := Nat.sub_mul _ _ _
    have hle : l.length * size ≤ c * size := Nat.mul_le_mul_right _ h2
    have hlj : j * size ≤ l.length * size := Nat.mul_le_mul_right _ hj
    have hst := run_storeCells (P := P) (el := el) (a := (⟨g, 0 + j * size, none⟩ : Addr)) rfl (Builtin.zeroCells z.cells (l.length - j)).toList 0 W cur hg (by rw [zcells_len hzs, h4]; simp only; omega) (zcells_one (by rw [hzs]; exact E.pos) h1)
    have ha : (some (⟨g, 0, none⟩ : Addr)).map (fun z => Addr.add z (j * size)) = some ⟨g, 0 + j * size, none⟩ := by simp [add_at]
    rw [ha]
    obtain ⟨cur', hc'⟩ : ∃ x, x = (cur.toList.take (0 + j * size + 0) ++ (Builtin.zeroCells z.cells (l.length - j)).toList ++ cur.toList.drop (0 + j * size + 0 + (Builtin.zeroCells z.cells (l.length - j)).toList.length)).toArray := ⟨_, rfl⟩
    rw [← hc'] at hst
    have hz' := zcells_len (n := l.length - j) hzs
    refine ⟨.tuple #[], World.setBlk W g (.cells cur' el (0, 0)), ?_, hk _ ?_⟩
    · obtain ⟨m, hm'⟩ : ∃ m, l.length - j = m + 1 := ⟨l.length - j - 1, by omega⟩
      rw [hm'] at hst ⊢
      simp only [Builtin.clear_, List.getElem?_toArray, List.getElem?_cons_zero, Sem.run_bind, run_underlying' E.ty, Result.andThen_ok, hz, hst, Sem.run_pure]
    · refine h.upd hi (Fr.setBlk (S := fun b => b = g) rfl W _ |>.mono fun b _ hb => by rw [hb]; rfl) _ ?_ fun b hb => .inl hb
      have hjl : (l.take j).length = j := by simp [hj]
      have hsz : cur'.size = c * size := by
        rw [hc', List.size_toArray, List.length_append, List.length_append, List.length_take, List.length_drop, hz', Array.length_toList, h4]; omega
      have htk : cur'.toList.take ((l.take j).length * size) = (l.take j).flatMap enc := by
        have h6 : (cur.toList.take (0 + j * size + 0)).length = j * size := by rw [List.length_take, Array.length_toList, h4]; omega
        rw [hc', List.append_assoc, hjl, List.take_append_of_le_length (by omega), ← flat_take E.len, ← h5, List.take_take, List.take_take]
        congr 1; omega
      have := SlR.mk (el := el) (cap := c) (l := l.take j) E.len (setBlk_same (o := .cells cur' el (0, 0)) hg) (by omega) h3 hsz htk
      rw [hjl] at this
      exact this
  · have e : j = l.length := by omega
    subst e
    rw [Nat.sub_self]
    refine ⟨.tuple #[], W, ?_, hk W ?_⟩
    · cases (if c = l.length then a else Option.map (fun z => Addr.add z (l.length * size)) a) <;> simp [Builtin.clear_, run_underlying' E.ty]
    · have := h.upd (W' := W) hi (Fr.refl _ _) (.sl el size enc (.slice a l.length c) (l.take l.length)) (by rw [List.take_length]; exact hs) fun b hb => .inl hb
      exact this
end

/-! ### Loops -/
theorem least {p : Nat → Prop} (h : ∃ n, p n) : ∃ n, p n ∧ ∀ m, p m → n ≤ m := by
  obtain ⟨n, hn⟩ := h
  induction n using Nat.strongRecOn with
  | ind n ih =>
    by_cases hm : ∃ m, m < n ∧ p m
    · obtain ⟨m, h1, h2⟩ := hm; exact ih m h1 h2
    · exact ⟨n, hn, fun m hp => Nat.le_of_not_lt fun h1 => hm ⟨m, h1, hp⟩⟩
open Classical in
theorem Lp.of {σ : Type} {body : List Value → World → (List Value → World → Prop) → Prop} {W : World} {s0 : List Value} (enc : σ → List Value) (I : σ → World → Prop) (μ : σ → Nat) (t0 : σ) (e0 : s0 = enc t0) (h0 : I t0 W)
    (step : ∀ t W k, I t W → (∀ t' W', I t' W' → μ t' < μ t → k (enc t') W') → body (enc t) W k) : Lp body s0 W := by
  refine ⟨fun s W => ∃ t, s = enc t ∧ I t W, fun s W => if h : ∃ n, ∃ t, s = enc t ∧ I t W ∧ μ t = n then (least h).choose else 0, ⟨t0, e0, h0⟩, ?_⟩
  rintro s W ⟨t, hs, hI⟩
  have hex : ∃ n, ∃ t, s = enc t ∧ I t W ∧ μ t = n := ⟨_, t, hs, hI, rfl⟩
  obtain ⟨t1, hs1, hI1, hn⟩ := (least hex).choose_spec.1
  subst hs1
  refine step t1 W _ hI1 fun t' W' hI' hlt => ⟨⟨t', rfl, hI'⟩, ?_⟩
  have hex' : ∃ n, ∃ t, enc t' = enc t ∧ I t W' ∧ μ t = n := ⟨_, t', rfl, hI', rfl⟩
  dsimp only
  rw [dif_pos hex, dif_pos hex']
  exact Nat.lt_of_le_of_lt ((least hex').choose_spec.2 _ ⟨t', rfl, hI', rfl⟩) (by rw [← hn]; exact hlt)
end Go.Vc
