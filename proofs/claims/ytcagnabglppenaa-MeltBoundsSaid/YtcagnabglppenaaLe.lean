/- Reading slices that came in; appending; opening a claim's arguments. -/
import Derived.Test.YtcagnabglppenaaLd
import Derived.Deep.Slices
import Derived.OpenShut
namespace Go.Vc
open Go Go.RowKit

/-! ### A slice that reads as a list -/
def RdL {α : Type} (W : World) (_ : Nat) (enc : α → List Value) (a : Option Addr) (l : List α) : Prop := (a = none → l = []) ∧ ∀ p, a = some p → Row W p (l.flatMap enc)
theorem row_cell {W : World} {p : Addr} {cs : List Value} (h : Row W p cs) {i : Nat} {u : Value} (hi : cs[i]? = some u) : p.block < W.heap.size := by
  have := h i u hi
  have hb : (p.add i).block = p.block := by unfold Addr.add; split <;> rfl
  rw [← hb]
  unfold World.cell? at this
  cases ho : W.heap[(p.add i).block]? with
  | none => rw [ho] at this; cases this
  | some o => exact heap_lt ho
theorem row_of_block {W W' : World} {p : Addr} {cs : List Value} (h : Row W p cs) (hb : cs ≠ [] → W'.heap[p.block]? = W.heap[p.block]?) : Row W' p cs := fun i u hi => by
  have hb' : (p.add i).block = p.block := by unfold Addr.add; split <;> rfl
  rw [World.cell?_of_block (w := W) (by rw [hb']; exact hb (by intro e; subst e; simp at hi))]
  exact h i u hi
theorem row_sub {W : World} {p : Addr} {cs : List Value} (h : Row W p cs) (i n : Nat) : Row W (p.add i) ((cs.drop i).take n) := fun j u hj => by
  rw [Deep.add_add]
  have hlt : j < n := by have := (List.getElem?_eq_some_iff.1 hj).1; simp at this; omega
  rw [List.getElem?_take_of_lt hlt, List.getElem?_drop] at hj
  exact h _ _ hj
section
variable {α : Type} {W : World} {size : Nat} {enc : α → List Value} {a : Option Addr} {l : List α}
theorem RdL.bel {W' : World} (h : RdL W size enc a l) (hb : Below W.heap.size W W') : RdL W' size enc a l := ⟨h.1, fun p hp => row_of_block (h.2 p hp) fun hne => by
  obtain ⟨u, hu⟩ : ∃ u, (l.flatMap enc)[0]? = some u := by cases hl : l.flatMap enc with | nil => exact absurd hl hne | cons u r => exact ⟨u, rfl⟩
  exact hb.block _ (row_cell (h.2 p hp) hu)⟩
theorem RdL.fr {S : Nat → Prop} {W' : World} (h : RdL W size enc a l) (hf : Fr S W W') (hs : ∀ p, a = some p → p.block < W.heap.size → ¬ S p.block) : RdL W' size enc a l := ⟨h.1, fun p hp => row_of_block (h.2 p hp) fun hne => by
  obtain ⟨u, hu⟩ : ∃ u, (l.flatMap enc)[0]? = some u := by cases hl : l.flatMap enc with | nil => exact absurd hl hne | cons u r => exact ⟨u, rfl⟩
  exact hf.blk _ (row_cell (h.2 p hp) hu) (hs p hp (row_cell (h.2 p hp) hu))⟩
theorem RdL.row (he : ∀ x, (enc x).length = size) (h : RdL W size enc a l) {j : Nat} {x : α} (hx : l[j]? = some x) : ∃ p, a = some p ∧ Row W (p.add (j * size)) (enc x) := by
  cases ha : a with
  | none => have := h.1 ha; subst this; simp at hx
  | some p =>
    refine ⟨p, rfl, ?_⟩
    have := row_sub (h.2 p ha) (j * size) size
    rwa [flat_get he hx] at this
theorem RdL.get (he : ∀ x, (enc x).length = size) (h : RdL W size enc a l) {n : Nat} {i : Int} {j : Nat} {x : α} (hn : n = l.length) (hi : i = (j : Int)) (hx : l[j]? = some x) {K : List Value → Prop} (hk : K (enc x)) : IdxS a n i size fun q => LdNC W q size fun l => K l := by
  obtain ⟨p, rfl, hr⟩ := h.row he hx
  subst hn
  exact IdxS.mk hi (List.getElem?_eq_some_iff.1 hx).1 ⟨_, he x, hr, hk⟩
theorem RdL.get1 (he : ∀ x, (enc x).length = size) (h : RdL W size enc a l) {n : Nat} {i : Int} {j : Nat} {x : α} (hn : n = l.length) (hi : i = (j : Int)) (hx : l[j]? = some x) {c : Nat} {u : Value} (hu : (enc x)[c]? = some u) {K : Value → Prop} (hk : K u) : IdxS a n i size fun q => Ld1 W (q.add c) K := by
  obtain ⟨p, rfl, hr⟩ := h.row he hx
  subst hn
  exact IdxS.mk hi (List.getElem?_eq_some_iff.1 hx).1 ⟨_, hr _ _ hu, hk⟩
theorem RdL.get0 (he : ∀ x, (enc x).length = size) (h : RdL W size enc a l) {n : Nat} {i : Int} {j : Nat} {x : α} (hn : n = l.length) (hi : i = (j : Int)) (hx : l[j]? = some x) {u : Value} (hu : (enc x)[0]? = some u) {K : Value → Prop} (hk : K u) : IdxS a n i size fun q => Ld1 W q K := by
  obtain ⟨p, rfl, hr⟩ := h.row he hx
  subst hn
  refine IdxS.mk hi (List.getElem?_eq_some_iff.1 hx).1 ⟨_, ?_, hk⟩
  have := hr _ _ hu
  simpa [Addr.add] using this
theorem SlR.rd {el : TypeId} {n c : Nat} (h : SlR W el size enc (.slice a n c) l) : RdL W size enc a l := by
  by_cases hl : l = []
  · subst hl; exact ⟨fun _ => rfl, fun p _ i u hi => by simp at hi⟩
  · obtain ⟨g, cap, cur, hv, hg, h1, h2, h3, h4⟩ := h.cells hl
    cases hv
    refine ⟨fun h => by (cases h), fun p hp => ?_⟩
    cases hp
    refine row_of hg ?_
    rw [List.drop_zero, h.1]
    exact h4
theorem SlR.cap {el : TypeId} {n c : Nat} (h : SlR W el size enc (.slice a n c) l) : l.length ≤ c := by
  rcases h.2 with ⟨e, h⟩ | ⟨g, cap, cur, e, _, _, h, _⟩
  · cases e; omega
  · cases e; exact h
theorem SlR.fr {el : TypeId} {v : Value} {S : Nat → Prop} {W' : World} (h : SlR W el size enc v l) (hf : Fr S W W') (hs : ∀ g, v.ownBlock = some g → ¬ S g) : SlR W' el size enc v l := h.of_heap fun g hg => hf.blk g (h.lt hg) (hs g hg)
theorem SlR.bel {el : TypeId} {v : Value} {W' : World} (h : SlR W el size enc v l) (hb : Below W.heap.size W W') : SlR W' el size enc v l := h.of_heap fun g hg => hb.block g (h.lt hg)
/-- What is left of a slice behind its first i. -/
theorem RdL.from (he : ∀ x, (enc x).length = size) (h : RdL W size enc a l) {c i : Nat} (hc : l.length ≤ c) (hi : i ≤ l.length) : RdL W size enc (if c = i then a else a.map fun z => z.add (i * size)) (l.drop i) := by
  by_cases hci : c = i
  · rw [if_pos hci]
    have : l.drop i = [] := List.drop_eq_nil_of_le (by omega)
    rw [this]
    exact ⟨fun _ => rfl, fun p _ i u hi => by simp at hi⟩
  · rw [if_neg hci]
    refine ⟨fun ha => ?_, fun p hp => ?_⟩
    · cases a with
      | none => rw [h.1 rfl]; simp
      | some p => cases ha
    · cases a with
      | none => cases hp
      | some p0 =>
        cases hp
        have := row_sub (h.2 p0 rfl) (i * size) (l.flatMap enc).length
        rwa [List.take_of_length_le (by rw [List.length_drop]; omega), flat_drop he] at this
/-- append of what reads as a list. -/
theorem SlR.appendR {P : Program} {t ty el : TypeId} {i : TypeInfo} {z : Value} {bytes : Nat} (he : ∀ a, (enc a).length = size) (h1 : ∀ a, ∀ u ∈ enc a, u.oneCell' = true) (ht : P.underlying t = some (.slice el)) (hi : P.info? el = some i)
    (hz : i.zero = some z) (hsize : i.size = size) (hby : i.bytes = bytes) (hzs : z.cells.size = size) (hsz : 0 < size) {v : Value} {ys : List α} (h : SlR W el size enc v l) {n c : Nat} (hr : RdL W size enc a ys) (hn : n = ys.length)
    (hb : (l.length + ys.length) * bytes ≤ 140737488355328) (hm : l.length + ys.length ≤ maxLen) :
    ∃ v' W', (Builtin.append_ #[t, t] ty #[v, .slice a n c]).run P W = .ok v' W' ∧ SlR W' el size enc v' (l ++ ys) ∧ W.grownBy W' v.ownBlock ∧ (v'.ownBlock = v.ownBlock ∨ v'.ownBlock = some W.heap.size) := by
  subst hn
  cases ha : a with
  | some p =>
    subst ha
    exact SlR.append he h1 ht hi hz hsize hby hzs hsz h (hr.2 p rfl) hb hm
  | none =>
    have := hr.1 ha
    subst this
    refine ⟨v, W, ?_, by simpa using h, ⟨rfl, rfl, rfl, Nat.le_refl _, fun _ _ _ => rfl⟩, .inl rfl⟩
    rcases h.2 with ⟨rfl, hn⟩ | ⟨g, cap, cur, rfl, _, hc, hnc, hm', hs, hp⟩
    · simp [Builtin.append_, run_underlying' ht, sizeOf, typeInfo, hi, Builtin.lenOf, Builtin.firstCells]
    · simp [Builtin.append_, run_underlying' ht, sizeOf, typeInfo, hi, Builtin.lenOf, Builtin.firstCells, hnc, storeCells]
end

/-! ### Opening arguments -/
inductive Lf where | int (k : IntKind) | bool | str
def Lf.ok : Lf → Value → Prop
  | .int k, v => ∃ n, v = .int k n ∧ (Lit.int k n).wf = true
  | .bool, v => ∃ b, v = .bool b
  | .str, v => ∃ s : ByteArray, v = .string s ∧ s.size ≤ maxLen
def Typed : List Lf → List Value → Prop
  | [], [] => True
  | s :: ss, v :: vs => s.ok v ∧ Typed ss vs
  | _, _ => False
theorem Typed.append : ∀ {s : List Lf} {a : List Value} {s' : List Lf} {b : List Value}, Typed s a → Typed s' b → Typed (s ++ s') (a ++ b)
  | [], [], _, _, _, h => h
  | _ :: _, _ :: _, _, _, h, k => ⟨h.1, h.2.append k⟩
  | [], _ :: _, _, _, h, _ => h.elim
  | _ :: _, [], _, _, h, _ => h.elim
theorem Typed.len : ∀ {s : List Lf} {a : List Value}, Typed s a → a.length = s.length
  | [], [], _ => rfl
  | _ :: _, _ :: _, h => by simp [h.2.len]
  | [], _ :: _, h => h.elim
  | _ :: _, [], h => h.elim
def shpF (P : Program) (f : TypeId → Option (List Lf)) : List Field → Nat → Option (List Lf)
  | [], _ => some []
  | x :: r, off => match f x.type with
    | none => none
    | some s => match Nat.beq x.offset off && Nat.beq (P.cellsOf x.type) s.length with
      | false => none
      | true => match shpF P f r (off + s.length) with
        | none => none
        | some s' => some (s ++ s')
def rep (s : List Lf) : Nat → List Lf
  | 0 => []
  | n + 1 => s ++ rep s n
/-- The leaves of a type of numbers, truth values and strings. -/
def shp (P : Program) : Nat → TypeId → Option (List Lf)
  | 0, _ => none
  | n + 1, t => match P.underlying t with
    | some (.int k) => some [.int k]
    | some .bool => some [.bool]
    | some .string => some [.str]
    | some (.struct fs) => (match shpF P (shp P n) fs.toList 0 with
      | none => none
      | some s => match Nat.beq (P.cellsOf t) s.length with | true => some s | false => none)
    | some (.array m e) => (match shp P n e with
      | none => none
      | some s => match Nat.beq (P.cellsOf e) s.length && Nat.beq (P.cellsOf t) (m * s.length) with | true => some (rep s m) | false => none)
    | _ => none
theorem rep_len (s : List Lf) : ∀ n, (rep s n).length = n * s.length
  | 0 => by simp [rep]
  | n + 1 => by rw [rep, List.length_append, rep_len s n, Nat.add_mul]; omega
section
variable {H : Type} {enc : TypeId × Value → H} {P : Program} {w : World} {base : Nat} {spare : Nat → Bool} {held : Bool}
theorem typedF {f : TypeId → Option (List Lf)} {cs : List Value} (ih : ∀ t s, f t = some s → ∀ fuel cs x, DataW.trod enc P w base spare held fuel t cs = some x → Typed s cs) :
    ∀ (r : List Field) (off : Nat) (s : List Lf), shpF P f r off = some s → (∀ x ∈ r, ∃ fuel y, DataW.trod enc P w base spare held fuel x.type ((cs.drop x.offset).take (P.cellsOf x.type)) = some y) → Typed s ((cs.drop off).take s.length)
  | [], off, s, h, _ => by
    simp only [shpF, Option.some.injEq] at h
    subst h
    simp [Typed]
  | x :: r, off, s, h, hx => by
    unfold shpF at h
    split at h
    · cases h
    · rename_i s1 hs1
      split at h
      · cases h
      · rename_i hb
        rw [Bool.and_eq_true] at hb
        have hb := And.intro (Nat.eq_of_beq_eq_true hb.1) (Nat.eq_of_beq_eq_true hb.2)
        split at h
        · cases h
        · rename_i s2 hs2
          cases h
          obtain ⟨fuel, y, hy⟩ := hx x (by simp)
          have t1 := ih _ _ hs1 _ _ _ hy
          rw [hb.1, hb.2] at t1
          have t2 := typedF ih r (off + s1.length) s2 hs2 (fun z hz => hx z (by simp [hz]))
          rw [List.length_append, List.take_add, List.drop_drop]
          exact t1.append t2
theorem typedA {t : TypeId} {s : List Lf} {cs : List Value} : ∀ (m i : Nat), (∀ j, i ≤ j → j < i + m → Typed s ((cs.drop (j * s.length)).take s.length)) → Typed (rep s m) ((cs.drop (i * s.length)).take (m * s.length))
  | 0, i, _ => by simp [rep, Typed]
  | m + 1, i, h => by
    have t1 := h i (Nat.le_refl _) (by omega)
    have t2 := typedA (t := t) m (i + 1) (fun j h1 h2 => h j (by omega) (by omega))
    rw [rep, show (m + 1) * s.length = s.length + m * s.length by rw [Nat.add_mul]; omega, List.take_add, List.drop_drop, show i * s.length + s.length = (i + 1) * s.length by rw [Nat.add_mul]; omega]
    exact t1.append t2
theorem typed_of : ∀ (n : Nat) (t : TypeId) (s : List Lf), shp P n t = some s → ∀ fuel cs x, DataW.trod enc P w base spare held fuel t cs = some x → Typed s cs
  | 0, _, _, h, _, _, _, _ => by cases h
  | n + 1, t, s, h, fuel, cs, x, hx => by
    unfold shp at h
    split at h
    · rename_i k ht
      cases h
      obtain ⟨m, rfl, _, hw⟩ := DataW.trod_int ht hx
      exact ⟨⟨m, rfl, hw⟩, trivial⟩
    · rename_i ht
      cases h
      obtain ⟨b, rfl, _⟩ := DataW.trod_bool ht hx
      exact ⟨⟨b, rfl⟩, trivial⟩
    · rename_i ht
      cases h
      obtain ⟨b, rfl, _, hw⟩ := DataW.trod_string ht hx
      exact ⟨⟨b, rfl, hw⟩, trivial⟩
    · rename_i fs ht
      split at h
      · cases h
      · rename_i s1 hs1
        split at h
        · rename_i hb
          cases h
          have hb := Nat.eq_of_beq_eq_true hb
          obtain ⟨xs, m, _, _, hl, hxl, hf⟩ := DataW.trod_struct ht hx
          have := typedF (cs := cs) (typed_of n) fs.toList 0 s hs1 (fun y hy => by
            obtain ⟨i, hi⟩ := List.getElem?_of_mem hy
            have hi' : fs[i]? = some y := by simpa using hi
            have hlt : i < xs.length := by rw [hxl]; exact (Array.getElem?_eq_some_iff.1 hi').1
            exact ⟨m, xs[i], (hf i y hi').trans (List.getElem?_eq_getElem hlt)⟩)
          rwa [List.drop_zero, List.take_of_length_le (by omega)] at this
        · cases h
    · rename_i m e ht
      split at h
      · cases h
      · rename_i s1 hs1
        split at h
        · rename_i hb
          cases h
          rw [Bool.and_eq_true] at hb
          have hb := And.intro (Nat.eq_of_beq_eq_true hb.1) (Nat.eq_of_beq_eq_true hb.2)
          obtain ⟨xs, k, _, _, hl, hxl, hf⟩ := DataW.trod_array ht hx
          have := typedA (t := t) (s := s1) (cs := cs) m 0 (fun j _ hj => by
            have hjm : j < m := by omega
            have h1 := (hf j hjm).trans (List.getElem?_eq_getElem (by omega))
            rw [hb.1] at h1
            exact typed_of n e s1 hs1 _ _ _ h1)
          rw [Nat.zero_mul, List.drop_zero, List.take_of_length_le (by omega)] at this
          exact this
        · cases h
    · cases h
/-- An argument that is a slice. -/
theorem open_list {α : Type} [Inhabited α] {en : α → List Value} {wf : α → Prop} {t e : TypeId} {s : List Lf} {size : Nat} {d : DataW H} {ps : List MemPlace} {a : Option Addr} {len cap : Nat} (ht : P.underlying t = some (.slice e)) (hs : shp P 20 e = some s)
    (hsize : P.cellsOf e = size) (hpos : 0 < size) (he : ∀ x, (en x).length = size) (dec : ∀ cs, Typed s cs → ∃ x, cs = en x ∧ wf x) (h : DataW.Trod enc P w base spare held t (.slice a len cap) d ps) :
    ∃ l : List α, l.length = len ∧ RdL w size en a l ∧ len ≤ cap ∧ cap ≤ maxLen ∧ ∀ x ∈ l, wf x := by
  obtain ⟨fuel, h⟩ := h
  rcases Deep.open_slice ht h with ⟨hcs, _⟩ | ⟨p, len', cap', m, n, D, Pl, hcs, hb, hl, hm, hmm, _, hx⟩
  · simp [Value.cells] at hcs
    obtain ⟨rfl, rfl, rfl⟩ := hcs
    exact ⟨[], rfl, ⟨fun _ => rfl, fun p hp => by (cases hp)⟩, Nat.le_refl _, Nat.zero_le _, fun x hx => by (cases hx)⟩
  · simp [Value.cells] at hcs
    obtain ⟨rfl, rfl, rfl⟩ := hcs
    have hlm : len ≤ m := by rw [hmm]; split <;> omega
    obtain ⟨f, hf⟩ := Deep.choose_lt (α := α) (n := len) (p := fun i x => w.cells? base (p.add (i * size)) size = some (en x) ∧ wf x) (fun i hi => by
      obtain ⟨cs', h1, h2⟩ := hx i (by omega)
      obtain ⟨x, rfl, hw⟩ := dec _ (typed_of 20 e s hs _ _ _ h2)
      rw [hsize] at h1
      exact ⟨x, h1, hw⟩)
    refine ⟨(List.range len).map f, by simp, ⟨fun hp => by (cases hp), fun q hq => ?_⟩, hl, hm, fun x hx => ?_⟩
    · cases hq
      intro k u hk
      have hkl := (List.getElem?_eq_some_iff.1 hk).1
      rw [flat_len he] at hkl
      simp at hkl
      have hi : k / size < len := (Nat.div_lt_iff_lt_mul hpos).2 hkl
      have hr : k % size < size := Nat.mod_lt _ hpos
      have hfi : ((List.range len).map f)[k / size]? = some (f (k / size)) := by simp [hi]
      have hget := flat_get he hfi
      obtain ⟨h1, h2⟩ := hf _ hi
      obtain ⟨_, _, hc⟩ := World.cells?_some h1
      have h3 := hc (k % size) hr
      rw [Deep.add_add] at h3
      have hk' : k / size * size + k % size = k := by rw [Nat.mul_comm]; exact Nat.div_add_mod k size
      rw [hk'] at h3
      rw [h3, ← hget, List.getElem?_take_of_lt hr, List.getElem?_drop, hk']
      exact hk
    · simp at hx
      obtain ⟨i, hi, rfl⟩ := hx
      exact (hf i hi).2
end
end Go.Vc
