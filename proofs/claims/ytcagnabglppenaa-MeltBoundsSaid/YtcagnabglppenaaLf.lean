/- Structs of numbers, truth values and strings: equality, and keys of maps. -/
import Derived.Test.YtcagnabglppenaaLe
import Derived.DeepKeys5
import Derived.Laws.StructEq
namespace Go.Vc
open Go Go.RowKit

theorem Typed.split : ∀ {s s' : List Lf} {cs : List Value}, Typed (s ++ s') cs → Typed s (cs.take s.length) ∧ Typed s' (cs.drop s.length)
  | [], _, _, h => ⟨trivial, h⟩
  | _ :: _, _, [], h => h.elim
  | _ :: _, _, _ :: _, h => ⟨⟨h.1, (Typed.split h.2).1⟩, (Typed.split h.2).2⟩
theorem mapM_ex {α β : Type} {f : α → Option β} : ∀ {l : List α}, (∀ x ∈ l, ∃ y, f x = some y) → ∃ ys, l.mapM f = some ys
  | [], _ => ⟨[], by simp⟩
  | x :: l, h => by
    obtain ⟨y, hy⟩ := h x (by simp)
    obtain ⟨ys, hys⟩ := mapM_ex (l := l) fun z hz => h z (by simp [hz])
    exact ⟨y :: ys, by simp [hy, hys]⟩
section
variable {P : Program}
theorem fields_typed {f : TypeId → Option (List Lf)} {cs : List Value} : ∀ (r : List Field) (off : Nat) (s : List Lf), shpF P f r off = some s → Typed s ((cs.drop off).take s.length) →
    ∀ x ∈ r, ∃ sx, f x.type = some sx ∧ Typed sx ((cs.drop x.offset).take (P.cellsOf x.type))
  | [], _, _, _, _, _, h => by cases h
  | y :: r, off, s, h, hT, x, hx => by
    unfold shpF at h
    split at h
    · cases h
    · rename_i s1 hs1
      split at h
      · cases h
      · rename_i hb
        rw [Bool.and_eq_true] at hb
        have hb := And.intro (Nat.eq_of_beq_eq_true hb.1) (Nat.eq_of_beq_eq_true hb.2)
        split at h
        · cases h
        · rename_i s2 hs2
          cases h
          rw [List.length_append] at hT
          obtain ⟨t1, t2⟩ := hT.split
          rw [List.take_take, Nat.min_eq_left (by omega)] at t1
          rw [List.drop_take, List.drop_drop, Nat.add_sub_cancel_left] at t2
          rcases List.mem_cons.1 hx with rfl | hx
          · exact ⟨s1, hs1, by rw [hb.1, hb.2]; exact t1⟩
          · exact fields_typed r _ s2 hs2 t2 x hx
theorem items_typed {s : List Lf} {cs : List Value} : ∀ (m i : Nat), Typed (rep s m) ((cs.drop (i * s.length)).take (m * s.length)) → ∀ j, i ≤ j → j < i + m → Typed s ((cs.drop (j * s.length)).take s.length)
  | 0, i, _, j, h1, h2 => by omega
  | m + 1, i, h, j, h1, h2 => by
    rw [rep, show (m + 1) * s.length = s.length + m * s.length by rw [Nat.add_mul]; omega] at h
    obtain ⟨t1, t2⟩ := h.split
    rw [List.take_take, Nat.min_eq_left (by omega)] at t1
    rw [List.drop_take, List.drop_drop, Nat.add_sub_cancel_left, show i * s.length + s.length = (i + 1) * s.length by rw [Nat.add_mul]; omega] at t2
    by_cases hj : j = i
    · subst hj; exact t1
    · exact items_typed m (i + 1) t2 j (by omega) (by omega)
theorem lits_of : ∀ (n : Nat) (t : TypeId) (s : List Lf), shp P n t = some s → P.keyTypeAt n t = true → ∀ (D : Nat), n ≤ D → ∀ cs, Typed s cs → ∃ L, P.keyLits D t cs = some L
  | 0, _, _, h, _, _, _, _, _ => by cases h
  | n + 1, t, s, h, hk, 0, hD, _, _ => by omega
  | n + 1, t, s, h, hk, D + 1, hD, cs, hT => by
    unfold shp at h
    unfold Program.keyTypeAt at hk
    unfold Program.keyLits
    split at h
    · rename_i k ht
      cases h
      match cs, hT with
      | [v], hT =>
        obtain ⟨m, e, hw⟩ := hT.1
        subst e
        rw [ht]
        exact ⟨[.int k m], by simp [hw]⟩
    · rename_i ht
      cases h
      match cs, hT with
      | [v], hT =>
        obtain ⟨b, e⟩ := hT.1
        subst e
        rw [ht]
        exact ⟨[.bool b], rfl⟩
    · rename_i ht
      cases h
      match cs, hT with
      | [v], hT =>
        obtain ⟨b, e, hw⟩ := hT.1
        subst e
        rw [ht]
        exact ⟨[.string b.data.toList], by simp [hw]⟩
    · rename_i fs ht
      rw [ht] at hk ⊢
      simp only [Bool.and_eq_true] at hk
      split at h
      · cases h
      · rename_i s1 hs1
        split at h
        · rename_i hb
          cases h
          have hb := Nat.eq_of_beq_eq_true hb
          have hfs : ∀ x ∈ fs.toList, x.name ≠ "_" ∧ P.keyTypeAt n x.type = true := fun x hx => by
            have := hk.1.1
            rw [Array.all_eq_true_iff_forall_mem] at this
            have := this x (by simpa using hx)
            simpa using this
          have hlen : cs.length = P.cellsOf t := by rw [hT.len, hb]
          have hnm : fs.all (fun f => f.name != "_") = true := by
            rw [Array.all_eq_true_iff_forall_mem]
            intro x hx
            simpa using (hfs x (by simpa using hx)).1
          obtain ⟨Ls, hLs⟩ := mapM_ex (f := fun f : Field => P.keyLits D f.type ((cs.drop f.offset).take (P.cellsOf f.type))) (l := fs.toList) fun x hx => by
            obtain ⟨sx, h1, h2⟩ := fields_typed (cs := cs) fs.toList 0 s hs1 (by rw [List.drop_zero, List.take_of_length_le (by rw [hT.len]; exact Nat.le_refl _)]; exact hT) x hx
            exact lits_of n x.type sx h1 (hfs x hx).2 D (by omega) _ h2
          exact ⟨Ls.flatten, by simp only [hlen, hnm, and_self, if_true, hLs, Option.map_some]⟩
        · cases h
    · rename_i m e ht
      rw [ht] at hk ⊢
      split at h
      · cases h
      · rename_i s1 hs1
        split at h
        · rename_i hb
          cases h
          rw [Bool.and_eq_true] at hb
          have hb := And.intro (Nat.eq_of_beq_eq_true hb.1) (Nat.eq_of_beq_eq_true hb.2)
          have hlen : cs.length = P.cellsOf t := by rw [hT.len, hb.2, rep_len]
          obtain ⟨Ls, hLs⟩ := mapM_ex (f := fun i : Nat => P.keyLits D e ((cs.drop (i * P.cellsOf e)).take (P.cellsOf e))) (l := List.range m) fun j hj => by
            have hj := List.mem_range.1 hj
            have h2 := items_typed (s := s1) (cs := cs) m 0 (by rw [Nat.zero_mul, List.drop_zero, List.take_of_length_le (by rw [hT.len, rep_len]; exact Nat.le_refl _)]; exact hT) j (Nat.zero_le _) (by omega)
            rw [hb.1]
            exact lits_of n e s1 hs1 hk D (by omega) _ h2
          exact ⟨Ls.flatten, by simp only [hlen, if_true, hLs, Option.map_some]⟩
        · cases h
    · cases h
/-- A type of which two values can be compared, cell for cell. -/
structure EqTy (P : Program) (t : TypeId) (s : List Lf) : Prop where
  shp : shp P 20 t = some s
  key : P.keyTypeAt 20 t = true
  tile : P.tiled 20 t = true
  wide : (match P.underlying t with | some (.array _ _) | some (.struct _) => true | _ => false) = true
  guard : P.eqGuardType P.depth t = false
theorem EqTy.size {t : TypeId} {s : List Lf} (E : EqTy P t s) : P.cellsOf t = s.length := by
  have h := E.shp
  have hw := E.wide
  unfold Vc.shp at h
  split at h
  · rename_i ht; rw [ht] at hw; cases hw
  · rename_i ht; rw [ht] at hw; cases hw
  · rename_i ht; rw [ht] at hw; cases hw
  · split at h
    · cases h
    · split at h
      · rename_i hb; cases h; exact Nat.eq_of_beq_eq_true hb
      · cases h
  · split at h
    · cases h
    · split at h
      · rename_i hb; cases h
        rw [Bool.and_eq_true] at hb
        rw [Nat.eq_of_beq_eq_true hb.2, rep_len]
      · cases h
  · cases h
theorem EqTy.formed {t : TypeId} {s : List Lf} (E : EqTy P t s) {cs : List Value} (h : Typed s cs) : (Value.agg cs.toArray).formed P t = true := by
  have hw := E.wide
  have hz := E.size
  unfold Value.formed
  split at hw
  · rename_i ht; simp [ht, h.len, hz]
  · rename_i ht; simp [ht, h.len, hz]
  · cases hw
theorem EqTy.equal {t : TypeId} {s : List Lf} (E : EqTy P t s) {cs ds : List Value} (h1 : Typed s cs) (h2 : Typed s ds) (w : World) : ∃ r : Bool, (Op.equalIn 10000 t (.agg cs.toArray) (.agg ds.toArray)).run P w = .ok r w ∧ (r = true ↔ cs = ds) := by
  obtain ⟨la, hla⟩ := lits_of 20 t s E.shp E.key 20 (Nat.le_refl _) cs h1
  obtain ⟨lb, hlb⟩ := lits_of 20 t s E.shp E.key 20 (Nat.le_refl _) ds h2
  obtain ⟨r, hr, hiff⟩ := run_equalIn_deep (P := P) 9980 20 t E.key w 20 20 (.agg cs.toArray) (.agg ds.toArray) la lb (E.formed h1) (E.formed h2) (by simpa [Value.cells] using hla) (by simpa [Value.cells] using hlb)
  have e1 := cells_of_lits 20 t E.tile 20 cs la hla
  have e2 := cells_of_lits 20 t E.tile 20 ds lb hlb
  refine ⟨r, hr, hiff.trans ⟨fun e => by rw [e1, e2, e], fun e => ?_⟩⟩
  subst e; rw [hla] at hlb; exact Option.some.inj hlb
theorem EqTy.eqr {t : TypeId} {s : List Lf} (E : EqTy P t s) {cs ds : List Value} (h1 : Typed s cs) (h2 : Typed s ds) : ∃ r : Bool, (∀ w, (Op.equalIn 10000 t (.agg cs.toArray) (.agg ds.toArray)).run P w = .ok r w) ∧ (r = true ↔ cs = ds) := by
  classical
  refine ⟨decide (cs = ds), fun w => ?_, by simp⟩
  obtain ⟨r, hr, hi⟩ := E.equal h1 h2 w
  have : r = decide (cs = ds) := by rw [Bool.eq_iff_iff, hi, decide_eq_true_iff]
  rw [← this]; exact hr
theorem EqTy.eql {t : TypeId} {s : List Lf} (E : EqTy P t s) {cs ds : List Value} (h1 : Typed s cs) (h2 : Typed s ds) {x y : Operand} {k : Value → Prop} (hk : ∀ r : Bool, (r = true ↔ cs = ds) → k (.bool r)) : RunP P (binRun .eql t x y (.agg cs.toArray) (.agg ds.toArray)) k := by
  obtain ⟨r, hr, hi⟩ := E.eqr h1 h2
  refine ⟨_, fun w => ?_, hk r hi⟩
  have g := run_eqGuard_agg (P := P) w .eql t x y cs.toArray ds.toArray E.guard
  have e := run_eql_struct (P := P) w t cs.toArray ds.toArray
  rw [hr] at e
  simp only [binRun, Sem.run_bind, g, Result.andThen_ok, e]
theorem EqTy.neq {t : TypeId} {s : List Lf} (E : EqTy P t s) {cs ds : List Value} (h1 : Typed s cs) (h2 : Typed s ds) {x y : Operand} {k : Value → Prop} (hk : ∀ r : Bool, (r = true ↔ cs = ds) → k (.bool (!r))) : RunP P (binRun .neq t x y (.agg cs.toArray) (.agg ds.toArray)) k := by
  obtain ⟨r, hr, hi⟩ := E.eqr h1 h2
  refine ⟨_, fun w => ?_, hk r hi⟩
  have g := run_eqGuard_agg (P := P) w .neq t x y cs.toArray ds.toArray E.guard
  have e := run_neq_struct (P := P) w t cs.toArray ds.toArray
  rw [hr] at e
  simp only [binRun, Sem.run_bind, g, Result.andThen_ok, e]
/-- A type of keys that are structs. -/
theorem keyOK_of {α : Type} {t : TypeId} {s : List Lf} (E : EqTy P t s) (hl : laidOutB P = true) (hsmall : Nat.ble (P.types.size + 2) 10000 = true) (hbig : Nat.ble 20 (P.types.size + 1) = true) (hrow : Nat.blt t P.types.size = true) (hk : P.keyType t = true)
    (en : α → List Value) (hT : ∀ a, Typed s (en a)) (inj : ∀ a b, en a = en b → a = b) : KeyOK P t (fun a => .agg (en a).toArray) := by
  have L := deep_law_gate hl (Nat.le_of_ble_eq_true hsmall) (by simpa using hrow) hk E.wide
  have key : ∀ a, ∃ l, keyOf P t (.agg (en a).toArray) = some l := fun a => by
    obtain ⟨la, hla⟩ := lits_of 20 t s E.shp E.key (P.types.size + 1) (Nat.le_of_ble_eq_true hbig) (en a) (hT a)
    have hw := E.wide
    unfold keyOf
    split at hw
    · rename_i ht; simp [ht, hk, E.formed (hT a), Value.cells, hla]
    · rename_i ht; simp [ht, hk, E.formed (hT a), Value.cells, hla]
    · cases hw
  have agg : ∀ a b, Value.agg (en a).toArray = .agg (en b).toArray → a = b := fun a b h => inj a b (by have := Value.agg.inj h; simpa using this)
  refine ⟨fun e a w => ?_, fun a es w he => ?_, fun a w => ?_, agg⟩
  · obtain ⟨l, hl⟩ := key a; exact L.check w e hl
  · obtain ⟨l, hl⟩ := key a
    rcases L.find w hl es (fun e h => by obtain ⟨b, hb⟩ := he e h; obtain ⟨l', hl'⟩ := key b; exact ⟨l', by rw [hb]; exact hl'⟩) with ⟨h1, h2⟩ | ⟨j, e, h1, h2, h3⟩
    · exact .inr ⟨h2, h1⟩
    · exact .inl ⟨j, e, h2, h3, h1⟩
  · obtain ⟨l, hl⟩ := key a; exact L.stays w hl
end
end Go.Vc
