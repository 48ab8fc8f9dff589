/- How long the texts in an argument are, by its bulk. -/
import Derived.Test.YtmhmlneobbgadaaGreatDoorLj
namespace Go.Vc
open Go Go.RowKit
section
variable {H : Type} {enc : TypeId × Value → H} {P : Program} {w : World} {base : Nat} {spare : Nat → Bool} {held : Bool}
/-- What a measure of readings must be. -/
structure Bulk (B : DataW H → Nat) : Prop where
  str : ∀ b : List UInt8, b.length ≤ B (.lit (.string b))
  agg : ∀ (l : List (DataW H)) (d : DataW H), d ∈ l → B d ≤ B (.agg l)
  sl : ∀ (l s : List (DataW H)) (d : DataW H), d ∈ l → B d ≤ B (.slice l s)
  len : ∀ (l s : List (DataW H)), l.length ≤ B (.slice l s)
theorem trod_str {t : TypeId} {fuel : Nat} {cs : List Value} {x : DataW H × List MemPlace} (ht : P.underlying t = some .string) (h : DataW.trod enc P w base spare held fuel t cs = some x) : ∃ b : ByteArray, cs = [.string b] ∧ x = (.lit (.string b.data.toList), []) := by
  obtain ⟨b, rfl, hx, _⟩ := DataW.trod_string ht h
  exact ⟨b, rfl, hx⟩
theorem strsF {f : TypeId → Option (List Lf)} {cs : List Value} {B : DataW H → Nat} {xs : List (DataW H × List MemPlace)} {m : Nat} (ih : ∀ t s, f t = some s → ∀ fuel cs x, DataW.trod enc P w base spare held fuel t cs = some x → ∀ b, Value.string b ∈ cs → b.size ≤ B x.1) :
    ∀ (r : List Field) (off : Nat) (s : List Lf), shpF P f r off = some s → (∀ x ∈ r, ∃ y ∈ xs, DataW.trod enc P w base spare held m x.type ((cs.drop x.offset).take (P.cellsOf x.type)) = some y) → ∀ b, Value.string b ∈ (cs.drop off).take s.length → ∃ y ∈ xs, b.size ≤ B y.1
  | [], off, s, h, _, b, hb => by
    simp only [shpF, Option.some.injEq] at h
    subst h
    simp at hb
  | x :: r, off, s, h, hx, b, hb => by
    unfold shpF at h
    split at h
    · cases h
    · rename_i s1 hs1
      split at h
      · cases h
      · rename_i hq
        rw [Bool.and_eq_true] at hq
        have hq := And.intro (Nat.eq_of_beq_eq_true hq.1) (Nat.eq_of_beq_eq_true hq.2)
        split at h
        · cases h
        · rename_i s2 hs2
          cases h
          rw [List.length_append, List.take_add, List.drop_drop] at hb
          rcases List.mem_append.1 hb with hb | hb
          · obtain ⟨y, hy, hy2⟩ := hx x (by simp)
            rw [hq.1, hq.2] at hy2
            exact ⟨y, hy, ih _ _ hs1 _ _ _ hy2 b hb⟩
          · exact strsF ih r (off + s1.length) s2 hs2 (fun z hz => hx z (by simp [hz])) b hb
theorem strsA {s : List Lf} {cs : List Value} {b : ByteArray} : ∀ (m i : Nat), Value.string b ∈ (cs.drop (i * s.length)).take (m * s.length) → ∃ j, i ≤ j ∧ j < i + m ∧ Value.string b ∈ (cs.drop (j * s.length)).take s.length
  | 0, i, h => by simp at h
  | m + 1, i, h => by
    rw [show (m + 1) * s.length = s.length + m * s.length by rw [Nat.add_mul]; omega, List.take_add, List.drop_drop, show i * s.length + s.length = (i + 1) * s.length by rw [Nat.add_mul]; omega] at h
    rcases List.mem_append.1 h with h | h
    · exact ⟨i, Nat.le_refl _, by omega, h⟩
    · obtain ⟨j, h1, h2, h3⟩ := strsA m (i + 1) h
      exact ⟨j, by omega, by omega, h3⟩
/-- The texts in what is read are no longer than its bulk. -/
theorem strs_le {B : DataW H → Nat} (hB : Bulk B) : ∀ (n : Nat) (t : TypeId) (s : List Lf), shp P n t = some s → ∀ fuel cs x, DataW.trod enc P w base spare held fuel t cs = some x → ∀ b, Value.string b ∈ cs → b.size ≤ B x.1
  | 0, _, _, h, _, _, _, _, _, _ => by cases h
  | n + 1, t, s, h, fuel, cs, x, hx, b, hb => by
    unfold shp at h
    split at h
    · rename_i k ht
      obtain ⟨m, rfl, _, hw⟩ := DataW.trod_int ht hx
      simp at hb
    · rename_i ht
      obtain ⟨c, rfl, _⟩ := DataW.trod_bool ht hx
      simp at hb
    · rename_i ht
      obtain ⟨c, rfl, rfl⟩ := trod_str ht hx
      have : b = c := by simpa using hb
      subst this
      have := hB.str b.data.toList
      rwa [Array.length_toList] at this
    · rename_i fs ht
      split at h
      · cases h
      · rename_i s1 hs1
        split at h
        · rename_i hq
          cases h
          have hq := Nat.eq_of_beq_eq_true hq
          obtain ⟨xs, m, _, rfl, hl, hxl, hf⟩ := DataW.trod_struct ht hx
          obtain ⟨y, hy, hle⟩ := strsF (cs := cs) (xs := xs) (m := m) (strs_le hB n) fs.toList 0 s hs1 (fun y hy => by
            obtain ⟨i, hi⟩ := List.getElem?_of_mem hy
            have hi' : fs[i]? = some y := by simpa using hi
            have hlt : i < xs.length := by rw [hxl]; exact (Array.getElem?_eq_some_iff.1 hi').1
            exact ⟨xs[i], List.getElem_mem hlt, (hf i y hi').trans (List.getElem?_eq_getElem hlt)⟩) b (by rw [List.drop_zero, List.take_of_length_le (by omega)]; exact hb)
          exact Nat.le_trans hle (hB.agg _ _ (List.mem_map.2 ⟨y, hy, rfl⟩))
        · cases h
    · rename_i m e ht
      split at h
      · cases h
      · rename_i s1 hs1
        split at h
        · rename_i hq
          cases h
          rw [Bool.and_eq_true] at hq
          have hq := And.intro (Nat.eq_of_beq_eq_true hq.1) (Nat.eq_of_beq_eq_true hq.2)
          obtain ⟨xs, k, _, rfl, hl, hxl, hf⟩ := DataW.trod_array ht hx
          obtain ⟨j, _, hj, hbj⟩ := strsA (s := s1) (cs := cs) (b := b) m 0 (by rw [Nat.zero_mul, List.drop_zero, List.take_of_length_le (by omega)]; exact hb)
          have hjm : j < xs.length := by omega
          have h1 := (hf j (by omega)).trans (List.getElem?_eq_getElem hjm)
          rw [hq.1] at h1
          exact Nat.le_trans (strs_le hB n e s1 hs1 _ _ _ h1 b hbj) (hB.agg _ _ (List.mem_map.2 ⟨xs[j], List.getElem_mem hjm, rfl⟩))
        · cases h
    · cases h
/-- A struct or an array by value, with its bulk. -/
theorem open_aggB {α : Type} {r : Reach} {b0 M : Nat} {en : α → List Value} {wf : α → Prop} {t : TypeId} {s : List Lf} {d : DataW H} {ps : List MemPlace} {v : Value} {B : DataW H → Nat} (hB : Bulk B)
    (ht : (match P.underlying t with | some (.struct _) => true | some (.array _ _) => true | _ => false) = true) (hv : Value.okWide P w r b0 t v) (hs : shp P 20 t = some s) (hM : B d ≤ M) (dec : ∀ cs, Typed s cs → (∀ b, Value.string b ∈ cs → b.size ≤ M) → ∃ x, cs = en x ∧ wf x) (h : DataW.Trod enc P w base spare held t v d ps) :
    ∃ x, v = .agg (en x).toArray ∧ wf x := by
  unfold Value.okWide at hv
  cases hu : P.underlying t with
  | none => rw [hu] at ht; cases ht
  | some u =>
    rw [hu] at hv ht
    cases u <;> first | (cases ht; done) | skip
    all_goals
      obtain ⟨cs, rfl, _⟩ := hv
      obtain ⟨fuel, h⟩ := h
      obtain ⟨x, hx, hw⟩ := dec _ (typed_of 20 t s hs fuel _ _ h) fun b hb => Nat.le_trans (strs_le hB 20 t s hs fuel _ _ h b hb) hM
      refine ⟨x, ?_, hw⟩
      have : cs.toList = en x := hx
      rw [← this]
/-- A slice, with its bulk. -/
theorem open_listB {α : Type} [Inhabited α] {M : Nat} {en : α → List Value} {wf : α → Prop} {t e : TypeId} {s : List Lf} {size : Nat} {d : DataW H} {ps : List MemPlace} {a : Option Addr} {len cap : Nat} {B : DataW H → Nat} (hB : Bulk B) (ht : P.underlying t = some (.slice e)) (hs : shp P 20 e = some s)
    (hsize : P.cellsOf e = size) (hpos : 0 < size) (he : ∀ x, (en x).length = size) (hM : B d ≤ M) (dec : ∀ cs, Typed s cs → (∀ b, Value.string b ∈ cs → b.size ≤ M) → ∃ y, cs = en y ∧ wf y) (h : DataW.Trod enc P w base spare held t (.slice a len cap) d ps) :
    ∃ l : List α, l.length = len ∧ RdL w size en a l ∧ len ≤ cap ∧ cap ≤ maxLen ∧ (∀ x ∈ l, wf x) ∧ len ≤ M := by
  have hlen : len ≤ M := by
    obtain ⟨fuel, h⟩ := h
    rcases Deep.open_slice ht h with ⟨hcs, _⟩ | ⟨p, len', cap', m, n, D, Pl, hcs, hb, hl, hm, hmm, hxd, hx⟩
    · simp [Value.cells] at hcs
      obtain ⟨rfl, rfl, rfl⟩ := hcs
      exact Nat.zero_le _
    · simp [Value.cells] at hcs
      obtain ⟨rfl, rfl, rfl⟩ := hcs
      obtain ⟨rfl, _⟩ := Prod.mk.inj hxd
      have := hB.len ((List.range len).map D) ((List.range (m - len)).map fun j => D (len + j))
      rw [List.length_map, List.length_range] at this
      omega
  have hall : ∀ i, i < len → ∀ (p : Addr), a = some p → ∃ x, w.cells? base (p.add (i * size)) size = some (en x) ∧ wf x := by
    obtain ⟨fuel, h⟩ := h
    rcases Deep.open_slice ht h with ⟨hcs, _⟩ | ⟨p, len', cap', m, n, D, Pl, hcs, hb, hl, hm, hmm, hxd, hx⟩
    · simp [Value.cells] at hcs
      obtain ⟨rfl, rfl, rfl⟩ := hcs
      intro i hi; omega
    · simp [Value.cells] at hcs
      obtain ⟨rfl, rfl, rfl⟩ := hcs
      have hlm : len ≤ m := by rw [hmm]; split <;> omega
      intro i hi q hq
      cases hq
      obtain ⟨cs', h1, h2⟩ := hx i (by omega)
      obtain ⟨rfl, _⟩ := Prod.mk.inj hxd
      have hD : B (D i) ≤ M := Nat.le_trans (hB.sl _ _ (D i) (List.mem_map.2 ⟨i, List.mem_range.2 hi, rfl⟩)) hM
      obtain ⟨x, rfl, hw⟩ := dec _ (typed_of 20 e s hs _ _ _ h2) fun b hb => Nat.le_trans (strs_le hB 20 e s hs _ _ _ h2 b hb) hD
      rw [hsize] at h1
      exact ⟨x, h1, hw⟩
  have hnone : a = none → len = 0 ∧ cap = 0 := fun hn => by
    obtain ⟨fuel, h⟩ := h
    rcases Deep.open_slice ht h with ⟨hcs, _⟩ | ⟨p, len', cap', m, n, D, Pl, hcs, hb, hl, hm, hmm, hxd, hx⟩
    · simp [Value.cells] at hcs
      exact hcs.2
    · simp [Value.cells] at hcs
      rw [hn] at hcs; cases hcs.1
  have hcap : len ≤ cap ∧ cap ≤ maxLen := by
    obtain ⟨fuel, h⟩ := h
    rcases Deep.open_slice ht h with ⟨hcs, _⟩ | ⟨p, len', cap', m, n, D, Pl, hcs, hb, hl, hm, hmm, hxd, hx⟩
    · simp [Value.cells] at hcs
      obtain ⟨rfl, rfl, rfl⟩ := hcs
      exact ⟨Nat.le_refl _, Nat.zero_le _⟩
    · simp [Value.cells] at hcs
      obtain ⟨rfl, rfl, rfl⟩ := hcs
      exact ⟨hl, hm⟩
  cases a with
  | none =>
    obtain ⟨h1, _⟩ := hnone rfl
    subst h1
    exact ⟨[], rfl, ⟨fun _ => rfl, fun p hp => by cases hp⟩, hcap.1, hcap.2, (fun x hx => by cases hx), hlen⟩
  | some p =>
    obtain ⟨f, hf⟩ := Deep.choose_lt (α := α) (n := len) (p := fun i x => w.cells? base (p.add (i * size)) size = some (en x) ∧ wf x) fun i hi => hall i hi p rfl
    refine ⟨(List.range len).map f, by simp, ⟨fun hp => (by cases hp), fun q hq => ?_⟩, hcap.1, hcap.2, fun x hx => ?_, hlen⟩
    · cases hq
      intro k u hk
      have hkl := (List.getElem?_eq_some_iff.1 hk).1
      rw [flat_len he] at hkl
      simp at hkl
      have hi : k / size < len := (Nat.div_lt_iff_lt_mul hpos).2 hkl
      have hr : k % size < size := Nat.mod_lt _ hpos
      have hfi : ((List.range len).map f)[k / size]? = some (f (k / size)) := by simp [hi]
      have hget := flat_get he hfi
      obtain ⟨h1, h2⟩ := hf _ hi
      obtain ⟨_, _, hc⟩ := World.cells?_some h1
      have h3 := hc (k % size) hr
      rw [Deep.add_add] at h3
      have hk' : k / size * size + k % size = k := by rw [Nat.mul_comm]; exact Nat.div_add_mod k size
      rw [hk'] at h3
      rw [h3, ← hget, List.getElem?_take_of_lt hr, List.getElem?_drop, hk']
      exact hk
    · simp at hx
      obtain ⟨i, hi, rfl⟩ := hx
      exact (hf i hi).2
end
end Go.Vc
