/- Opening arguments that hold slices in their items. -/
import Derived.Test.YtcagnabglppenaaLg
namespace Go.Vc
open Go Go.RowKit
section
variable {H : Type} {enc : TypeId × Value → H} {P : Program} {w : World} {base : Nat} {spare : Nat → Bool} {held : Bool}
theorem open_listG {α : Type} [Inhabited α] {en : α → List Value} {wf : α → Prop} {t e : TypeId} {size : Nat} {d : DataW H} {ps : List MemPlace} {a : Option Addr} {len cap : Nat} (ht : P.underlying t = some (.slice e))
    (hsize : P.cellsOf e = size) (hpos : 0 < size) (he : ∀ x, (en x).length = size) (dec : ∀ fuel cs x, DataW.trod enc P w base spare held fuel e cs = some x → ∃ y, cs = en y ∧ wf y) (h : DataW.Trod enc P w base spare held t (.slice a len cap) d ps) :
    ∃ l : List α, l.length = len ∧ RdL w size en a l ∧ len ≤ cap ∧ cap ≤ maxLen ∧ ∀ x ∈ l, wf x := by
  obtain ⟨fuel, h⟩ := h
  rcases Deep.open_slice ht h with ⟨hcs, _⟩ | ⟨p, len', cap', m, n, D, Pl, hcs, hb, hl, hm, hmm, _, hx⟩
  · simp [Value.cells] at hcs
    obtain ⟨rfl, rfl, rfl⟩ := hcs
    exact ⟨[], rfl, ⟨fun _ => rfl, fun p hp => by (cases hp)⟩, Nat.le_refl _, Nat.zero_le _, fun x hx => by (cases hx)⟩
  · simp [Value.cells] at hcs
    obtain ⟨rfl, rfl, rfl⟩ := hcs
    have hlm : len ≤ m := by rw [hmm]; split <;> omega
    obtain ⟨f, hf⟩ := Deep.choose_lt (α := α) (n := len) (p := fun i x => w.cells? base (p.add (i * size)) size = some (en x) ∧ wf x) (fun i hi => by
      obtain ⟨cs', h1, h2⟩ := hx i (by omega)
      obtain ⟨x, rfl, hw⟩ := dec _ _ _ h2
      rw [hsize] at h1
      exact ⟨x, h1, hw⟩)
    refine ⟨(List.range len).map f, by simp, ⟨fun hp => by (cases hp), fun q hq => ?_⟩, hl, hm, fun x hx => ?_⟩
    · cases hq
      intro k u hk
      have hkl := (List.getElem?_eq_some_iff.1 hk).1
      rw [flat_len he] at hkl
      simp at hkl
      have hi : k / size < len := (Nat.div_lt_iff_lt_mul hpos).2 hkl
      have hr : k % size < size := Nat.mod_lt _ hpos
      have hfi : ((List.range len).map f)[k / size]? = some (f (k / size)) := by simp [hi]
      have hget := flat_get he hfi
      obtain ⟨h1, h2⟩ := hf _ hi
      obtain ⟨_, _, hc⟩ := World.cells?_some h1
      have h3 := hc (k % size) hr
      rw [Deep.add_add] at h3
      have hk' : k / size * size + k % size = k := by rw [Nat.mul_comm]; exact Nat.div_add_mod k size
      rw [hk'] at h3
      rw [h3, ← hget, List.getElem?_take_of_lt hr, List.getElem?_drop, hk']
      exact hk
    · simp at hx
      obtain ⟨i, hi, rfl⟩ := hx
      exact (hf i hi).2
/-- The fields of a struct, each by itself. -/
theorem struct_fields {t : TypeId} {l : List (TypeId × Nat)} (hs : ∃ fs : Array Field, P.underlying t = some (.struct fs) ∧ (fs.toList.map fun f => (f.type, f.offset)) = l) {fuel : Nat} {cs : List Value} {x : DataW H × List MemPlace} (h : DataW.trod enc P w base spare held fuel t cs = some x) :
    cs.length = P.cellsOf t ∧ ∃ m, ∀ (i : Nat) (t' : TypeId) (o : Nat), l[i]? = some (t', o) → ∃ y, DataW.trod enc P w base spare held m t' ((cs.drop o).take (P.cellsOf t')) = some y := by
  obtain ⟨fs, ht, hmap⟩ := hs
  obtain ⟨xs, m, _, _, hl, hxl, hf⟩ := DataW.trod_struct ht h
  refine ⟨hl, m, fun i t' o hi => ?_⟩
  rw [← hmap, List.getElem?_map] at hi
  obtain ⟨f, hfi, e⟩ := Option.map_eq_some_iff.1 hi
  have e1 : f.type = t' := congrArg Prod.fst e
  have e2 : f.offset = o := congrArg Prod.snd e
  have hfi' : fs[i]? = some f := by simpa using hfi
  have hlt : i < xs.length := by rw [hxl]; exact (Array.getElem?_eq_some_iff.1 hfi').1
  have := hf i f hfi'
  rw [e1, e2] at this
  exact ⟨xs[i], this.trans (List.getElem?_eq_getElem hlt)⟩
theorem trod_isSlice {t e : TypeId} {fuel : Nat} {v : Value} {x : DataW H × List MemPlace} (ht : P.underlying t = some (.slice e)) (h : DataW.trod enc P w base spare held fuel t [v] = some x) : ∃ a len cap, v = .slice a len cap := by
  rcases Deep.open_slice ht h with ⟨h1, _⟩ | ⟨p, len, cap, _, _, _, _, h1, _⟩
  · cases h1; exact ⟨_, _, _, rfl⟩
  · cases h1; exact ⟨_, _, _, rfl⟩
end
section
variable {S : Nat → Prop} {W0 W W' : World} {rs : List Res}
/-- Two that are owned, as one. -/
theorem Ow.fuse {r1 r2 : Res} (h : Ow S W0 W (r1 :: r2 :: rs)) (r : Res) (ok : r1.ok W → r2.ok W → r.ok W) (hf : ∀ b, r.foot b → r1.foot b ∨ r2.foot b) : Ow S W0 W (r :: rs) := by
  refine ⟨h.fr, fun i r' hi => ?_, fun i r' b hi hb => ?_, fun i j x y b h1 h2 f1 f2 => ?_⟩
  · cases i with
    | zero => simp at hi; subst hi; exact ok (h.ok 0 r1 rfl) (h.ok 1 r2 rfl)
    | succ i => exact h.ok (i + 2) r' (by simpa using hi)
  · cases i with
    | zero =>
      simp at hi; subst hi
      rcases hf b hb with h1 | h1
      · exact h.lt 0 r1 b rfl h1
      · exact h.lt 1 r2 b rfl h1
    | succ i => exact h.lt (i + 2) r' b (by simpa using hi) hb
  · have key : ∀ (i : Nat) (x : Res), (r :: rs)[i]? = some x → x.foot b → ∃ k, ∃ z, (r1 :: r2 :: rs)[k]? = some z ∧ z.foot b ∧ (i = 0 ∧ k ≤ 1 ∨ k = i + 1 ∧ 2 ≤ k) := fun i x hi hx => by
      cases i with
      | zero =>
        simp at hi; subst hi
        rcases hf b hx with h1 | h1
        · exact ⟨0, r1, rfl, h1, .inl ⟨rfl, by omega⟩⟩
        · exact ⟨1, r2, rfl, h1, .inl ⟨rfl, by omega⟩⟩
      | succ i => exact ⟨i + 2, x, by simpa using hi, hx, .inr ⟨rfl, by omega⟩⟩
    obtain ⟨k1, z1, a1, b1, c1⟩ := key i x h1 f1
    obtain ⟨k2, z2, a2, b2, c2⟩ := key j y h2 f2
    have := h.dis k1 k2 z1 z2 b a1 a2 b1 b2
    omega
theorem IdxA.to {a : Addr} {len : Nat} {i : Int} {j sz : Nat} {k : Addr → Prop} (hi : i = (j : Int)) (hj : j < len) (hk : k (a.add (j * sz))) : IdxA a len i sz k := by
  subst hi
  exact ⟨by omega, by omega, by simpa using hk⟩
/-- l[j] = y, by value. -/
theorem Ow.ssetV {α : Type} {P : Program} {t el : TypeId} {size : Nat} {enc : α → List Value} {a : Option Addr} {n c : Nat} {l : List α} {x : Int} {j : Nat} {y : α} {v : Value} {K : World → Prop} (h : Ow S W0 W rs) (E : ElT P t el size enc) (i : Nat) (hi : rs[i]? = some (.sl el size enc (.slice a n c) l)) (hx : x = (j : Int)) (hj : j < l.length) (hv : v.cells = (enc y).toArray) (h1 : (enc y).all oneC = true)
    (hk : ∀ W', Ow S W0 W' (rs.set i (.sl el size enc (.slice a n c) (l.set j y))) → K W') : IdxS a n x size fun q => StV size W q v K := by
  have hk' := h.sset E i hi hx hj h1 hk
  refine (?_ : _ → _) hk'
  intro h2
  have e : ∀ W k, StV size W k v K ↔ StV size W k (.agg (enc y).toArray) K := fun W k => by
    unfold StV
    rw [hv]; exact Iff.rfl
  unfold IdxS at h2 ⊢
  obtain ⟨q, h3, h4, h5, h6⟩ := h2
  exact ⟨q, h3, h4, h5, (e W _).2 h6⟩
end
end Go.Vc
