/- Operations that the world has no part in, in a run whose arguments are known: what they yield. -/
import Derived.Test.YtmhmlneobbgadaaGreatDoorQb
namespace Go.Xv
open Go Go.RowKit Go.Vc

/-! ### Numbers and texts -/
noncomputable def nthL {α : Type} (l : List α) : Nat → Option α := List.rec (fun _ => none) (fun x _ ih n => Nat.rec (some x) (fun m _ => ih m) n) l
theorem nthL_eq {α : Type} : ∀ (l : List α) (n : Nat), nthL l n = l[n]?
  | [], n => by simp [nthL]
  | x :: l, 0 => rfl
  | x :: l, n + 1 => by
    have : nthL (x :: l) (n + 1) = nthL l n := rfl
    rw [this, nthL_eq l n]; simp
noncomputable def xInt (op : BinOp) (ik : IntKind) (a : Int) (ik' : IntKind) (b : Int) : Option Value :=
  match op with
  | .shl => (match b with | .ofNat n => some (.int ik (ik.wrap (a * 2 ^ (min n ik.bits)))) | _ => none)
  | .shr => (match b with | .ofNat n => some (.int ik (a.fdiv (2 ^ (min n ik.bits)))) | _ => none)
  | _ => match sameK ik ik' with
    | false => none
    | true => match op with
      | .add => some (.int ik (ik.wrap (a + b)))
      | .sub => some (.int ik (ik.wrap (a - b)))
      | .mul => some (.int ik (ik.wrap (a * b)))
      | .quo => (match b == 0 with | true => none | false => some (.int ik (ik.wrap (a.tdiv b))))
      | .rem => (match b == 0 with | true => none | false => some (.int ik (a.tmod b)))
      | .and => some (.int ik (ik.wrap ((BitVec.ofInt ik.bits a &&& BitVec.ofInt ik.bits b).toNat : Int)))
      | .or => some (.int ik (ik.wrap ((BitVec.ofInt ik.bits a ||| BitVec.ofInt ik.bits b).toNat : Int)))
      | .xor => some (.int ik (ik.wrap ((BitVec.ofInt ik.bits a ^^^ BitVec.ofInt ik.bits b).toNat : Int)))
      | .andNot => some (.int ik (ik.wrap ((BitVec.ofInt ik.bits a &&& ~~~(BitVec.ofInt ik.bits b)).toNat : Int)))
      | .eql => some (.bool (a == b))
      | .neq => some (.bool (a != b))
      | .lss => some (.bool (decide (a < b)))
      | .leq => some (.bool (decide (a ≤ b)))
      | .gtr => some (.bool (decide (a > b)))
      | .geq => some (.bool (decide (a ≥ b)))
      | _ => none
theorem xInt_ok {op : BinOp} {ik ik' : IntKind} {a b : Int} {v : Value} {k : Value → Prop} (h : xInt op ik a ik' b = some v) (hk : k v) : vInt op ik a ik' b k := by
  have eqk : ∀ {p : Prop}, sameK ik ik' = true → p → EqK ik ik' p := fun h1 h2 => by unfold EqK; rw [h1]; exact h2
  unfold xInt at h
  split at h
  · split at h
    · cases h; exact ⟨Int.natCast_nonneg _, hk⟩
    · cases h
  · split at h
    · cases h; exact ⟨Int.natCast_nonneg _, hk⟩
    · cases h
  · rename_i h1 h2
    split at h
    · cases h
    · rename_i hs
      split at h
      case h_4 => split at h <;> rename_i hb <;> cases h; exact eqk hs ⟨by simpa using hb, hk⟩
      case h_5 => split at h <;> rename_i hb <;> cases h; exact eqk hs ⟨by simpa using hb, hk⟩
      all_goals first | cases h; exact eqk hs hk | cases h
noncomputable def cat (a b : ByteArray) : ByteArray := ⟨⟨a.data.toList ++ b.data.toList⟩⟩
theorem cat_eq (a b : ByteArray) : cat a b = a ++ b := by
  apply ByteArray.ext
  apply Array.toList_inj.1
  rw [ByteArray.data_append, Array.toList_append]
  rfl
noncomputable def lenB (a : ByteArray) : Nat := a.data.toList.length
theorem lenB_eq (a : ByteArray) : lenB a = a.size := rfl
noncomputable def sub (a : ByteArray) (i j : Nat) : ByteArray := ⟨⟨(a.data.toList.drop i).take (j - i)⟩⟩
theorem sub_eq (a : ByteArray) (i j : Nat) : sub a i j = a.extract i j := by
  apply ByteArray.ext
  apply Array.toList_inj.1
  rw [ByteArray.data_extract, Array.toList_extract]
  unfold sub List.extract
  rfl
noncomputable def xStr (op : BinOp) (a b : ByteArray) : Option Value :=
  match op with
  | .add => (match Nat.ble (lenB a + lenB b) 9223372036854775807 with | true => some (.string (cat a b)) | false => none)
  | .eql => some (.bool (a.toList == b.toList))
  | .neq => some (.bool (!(a.toList == b.toList)))
  | .lss => some (.bool (Op.bytesLess a.toList b.toList))
  | .leq => some (.bool (Op.bytesLess a.toList b.toList || a.toList == b.toList))
  | .gtr => some (.bool (!(Op.bytesLess a.toList b.toList || a.toList == b.toList)))
  | .geq => some (.bool (!(Op.bytesLess a.toList b.toList)))
  | _ => none
theorem xStr_ok {op : BinOp} {a b : ByteArray} {v : Value} {k : Value → Prop} (h : xStr op a b = some v) (hk : k v) : vStr op a b k := by
  have hmax : IntKind.i64.max = 9223372036854775807 := by kernel_rfl
  unfold xStr at h
  unfold vStr
  split at h
  · split at h
    · rename_i hb
      cases h
      rw [cat_eq] at hk
      refine ⟨?_, hk⟩
      rw [hmax]
      have := Nat.le_of_ble_eq_true hb
      rw [lenB_eq, lenB_eq] at this
      omega
    · cases h
  all_goals first | (cases h; exact hk) | cases h

/-! ### Parts -/
noncomputable def xPart (P : Program) (t : TypeId) (cs : List C1) (off : Nat) : Option CV :=
  match P.underlying t with
  | some (.struct _) => some (.p (.g ((cs.drop off).take (P.cellsOf t))))
  | some (.array _ _) => some (.p (.g ((cs.drop off).take (P.cellsOf t))))
  | some _ => (match nthL cs off with | some u => (match xAs1 P t u with | true => some (.p (.o u)) | false => none) | none => none)
  | none => none
theorem xPart_ok {P : Program} {t : TypeId} {r : Ro} {cs : List C1} {l : List Value} {off : Nat} {c : CV} {k : Value → Prop} (hl : upL r cs = some l) (h : xPart P t cs off = some c) (hk : ∀ v, upV r c = some v → k v) : PartV P t l.toArray off k := by
  have agg : upV r (.p (.g ((cs.drop off).take (P.cellsOf t)))) = some (.agg (l.toArray.extract off (off + P.cellsOf t))) := by
    simp only [upV, upP, upL_take _ (upL_drop off hl)]
    rw [List.extract_toArray, List.extract_eq_take_drop, Nat.add_sub_cancel_left]
  unfold xPart at h
  unfold PartV
  split at h
  · rename_i ht; cases h; rw [ht]; exact hk _ agg
  · rename_i ht; cases h; rw [ht]; exact hk _ agg
  · rename_i d h1 h2 ht
    split at h
    · rename_i u hu
      rw [nthL_eq] at hu
      split at h
      · rename_i ha
        cases h
        obtain ⟨v, hv, hu'⟩ := upL_at hl hu
        have key : ∃ u, l.toArray[off]? = some u ∧ As1 P t u k := ⟨v, by simpa using hv, xAs1_ok ha hu' (hk v hu')⟩
        rw [ht]
        cases d <;> first | exact key | exact (h1 _ rfl).elim | exact (h2 _ _ rfl).elim
      · cases h
    · cases h
  · cases h
noncomputable def fldOf (P : Program) (t : TypeId) (i : Nat) : Option (TypeId × Nat) :=
  match P.underlying t with
  | some (.struct fs) => (match fs[i]? with | some f => some (f.type, f.offset) | none => none)
  | _ => none
theorem fldOf_ok {P : Program} {t : TypeId} {i o : Nat} {t' : TypeId} (h : fldOf P t i = some (t', o)) : ∃ fs f, P.underlying t = some (.struct fs) ∧ fs[i]? = some f ∧ f.type = t' ∧ f.offset = o := by
  unfold fldOf at h
  split at h
  · rename_i fs ht
    split at h
    · rename_i f hf; cases h; exact ⟨fs, f, ht, hf, rfl, rfl⟩
    · cases h
  · cases h
/-! ### What is built of parts -/
noncomputable def xPlace (P : Program) (t : TypeId) (i : Nat) : Option (Nat × Nat) :=
  match P.underlying t with
  | some (.struct fs) => (match fs[i]? with | some f => (match P.info? f.type with | some d => some (f.offset, d.size) | none => none) | none => none)
  | some (.array _ e) => (match P.info? e with | some d => some (i * d.size, d.size) | none => none)
  | some (.slice e) => (match P.info? e with | some d => some (i * d.size, d.size) | none => none)
  | _ => none
noncomputable def one1 : C1 → Bool
  | .k v => oneC v
  | _ => true
noncomputable def xCells : PV → Option (List C1)
  | .o c => (match one1 c with | true => some [c] | false => none)
  | .g cs => (match cs.all one1 with | true => some cs | false => none)
theorem one1_up {r : Ro} {c : C1} {v : Value} (h : one1 c = true) (hc : up1 r c = some v) : oneC v = true := by
  cases c with
  | k w => cases hc; exact h
  | p b off => obtain ⟨a, rfl, _⟩ := up_p hc; rfl
  | s b off n c => obtain ⟨a, rfl, _⟩ := up_s hc; rfl
  | u b off i n => obtain ⟨a, _, _, rfl⟩ := up_u hc; rfl
  | f g as bs => obtain ⟨a, b, _, _, rfl⟩ := up_f hc; rfl
  | y b => obtain ⟨a, _, rfl⟩ := up_y hc; rfl
  | m b => obtain ⟨a, _, rfl⟩ := up_m hc; rfl
  | h b => obtain ⟨a, _, rfl⟩ := up_h hc; rfl
  | i b off t => obtain ⟨a, _, rfl⟩ := up_i hc; rfl
theorem oneC_cells {v : Value} (h : oneC v = true) : v.cells = #[v] := by cases v <;> first | rfl | cases h
theorem all1_up {r : Ro} : ∀ {cs : List C1} {l : List Value}, cs.all one1 = true → upL r cs = some l → l.all oneC = true
  | [], l, _, hl => by cases hl; rfl
  | c :: cs, l, h, hl => by
    obtain ⟨v, m, rfl, h1, h2⟩ := upL_cons hl
    rw [List.all_cons, Bool.and_eq_true] at h
    rw [List.all_cons, one1_up h.1 h1, all1_up h.2 h2]; rfl
theorem xCells_up {r : Ro} {c : PV} {cs : List C1} {v : Value} (h : xCells c = some cs) (hc : upP r c = some v) : upL r cs = some v.cells.toList ∧ v.cells.toList.all oneC = true := by
  cases c with
  | o c =>
    simp only [xCells] at h
    split at h
    · rename_i h1
      cases h
      have h2 := one1_up h1 hc
      rw [oneC_cells h2]
      exact ⟨upL_mk hc rfl, by simp [h2]⟩
    · cases h
  | g ds =>
    simp only [xCells] at h
    simp only [upP] at hc
    split at h
    · rename_i h1
      cases h
      split at hc
      · rename_i l hl
        cases hc
        exact ⟨hl, all1_up h1 hl⟩
      · cases hc
    · cases h
noncomputable def xPlaces (P : Program) (t : TypeId) : List (Nat × PV) → Option (List (Nat × Nat × List C1))
  | [] => some []
  | (i, v) :: r => match xPlace P t i, xCells v, xPlaces P t r with | some (o, s), some cs, some l => some ((o, s, cs) :: l) | _, _, _ => none
inductive UpParts (r : Ro) : List (Nat × Nat × List C1) → List (Nat × Nat × Value) → Prop
  | nil : UpParts r [] []
  | cons {o s : Nat} {cs : List C1} {v : Value} {l : List (Nat × Nat × List C1)} {m : List (Nat × Nat × Value)} (h : upL r cs = some v.cells.toList) (t : UpParts r l m) : UpParts r ((o, s, cs) :: l) ((o, s, v) :: m)
inductive UpKs (r : Ro) : List (Nat × PV) → List (Nat × Value) → Prop
  | nil : UpKs r [] []
  | cons {i : Nat} {c : PV} {v : Value} {l : List (Nat × PV)} {m : List (Nat × Value)} (h : upP r c = some v) (t : UpKs r l m) : UpKs r ((i, c) :: l) ((i, v) :: m)
theorem xPlaces_ok {P : Program} {t : TypeId} {r : Ro} : ∀ {l : List (Nat × PV)} {m : List (Nat × Value)} {q : List (Nat × Nat × List C1)}, UpKs r l m → xPlaces P t l = some q → ∃ ps, places P t m = some ps ∧ UpParts r q ps
  | [], _, q, h, hq => by cases h; cases hq; exact ⟨[], rfl, .nil⟩
  | (i, c) :: l, _, q, h, hq => by
    cases h with
    | cons hc ht =>
      rename_i v m
      unfold xPlaces at hq
      split at hq
      · rename_i o s cs l' h1 h2 h3
        cases hq
        obtain ⟨ps, hps, hu⟩ := xPlaces_ok ht h3
        obtain ⟨h4, _⟩ := xCells_up h2 hc
        refine ⟨(o, s, v) :: ps, ?_, .cons h4 hu⟩
        unfold xPlace at h1
        unfold places
        split at h1
        · rename_i fs hu'
          rw [hu']
          dsimp only
          split at h1
          · rename_i f hf
            rw [hf]
            dsimp only
            split at h1
            · rename_i d hd; rw [hd]; dsimp only; rw [hps]; cases h1; rfl
            · cases h1
          · cases h1
        · rename_i e hu'
          rw [hu']
          dsimp only
          split at h1
          · rename_i d hd; rw [hd]; dsimp only; rw [hps]; cases h1; rfl
          · cases h1
        · rename_i e hu'
          rw [hu']
          dsimp only
          split at h1
          · rename_i d hd; rw [hd]; dsimp only; rw [hps]; cases h1; rfl
          · cases h1
        · cases h1
      · cases hq
noncomputable def xSplice (n : Nat) : List C1 → List (Nat × Nat × List C1) → Option (List C1)
  | cs, [] => some cs
  | cs, (off, sz, v) :: r => match Nat.beq v.length sz, Nat.ble (off + sz) n with | true, true => xSplice n (cs.take off ++ v ++ cs.drop (off + sz)) r | _, _ => none
theorem xSplice_ok {r : Ro} {n : Nat} : ∀ {q : List (Nat × Nat × List C1)} {ps : List (Nat × Nat × Value)} {cs cs' : List C1} {zs : List Value}, UpParts r q ps → upL r cs = some zs → xSplice n cs q = some cs' → partsOk n ps ∧ upL r cs' = some (splice zs ps)
  | [], _, cs, cs', zs, h, hc, hx => by cases h; cases hx; exact ⟨trivial, hc⟩
  | (off, sz, v) :: q, _, cs, cs', zs, h, hc, hx => by
    cases h with
    | cons hv ht =>
      rename_i w m
      unfold xSplice at hx
      split at hx
      · rename_i h1 h2
        have h3 : v.length = sz := Nat.eq_of_beq_eq_true h1
        have h4 := Nat.le_of_ble_eq_true h2
        have hl := upL_len hv
        have hsz : w.cells.size = sz := by rw [← Array.length_toList]; omega
        obtain ⟨g1, g2⟩ := xSplice_ok ht (upL_app (upL_app (upL_take off hc) hv) (upL_drop (off + sz) hc)) hx
        exact ⟨⟨hsz, h4, g1⟩, g2⟩
      · cases hx
end Go.Xv
