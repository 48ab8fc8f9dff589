/- What the verification condition asks of an operation that the world has no part in, is enough for its run. -/
import Derived.Test.YtmhmlneobbgadaaGreatDoorVcA
import Derived.Laws.Sem
namespace Go.Vc
open Go Go.RowKit

theorem run_underlying' {P : Program} {t : TypeId} {d : TypeDesc} (h : P.underlying t = some d) (w : World) : (underlying t).run P w = .ok d w := by
  simp [underlying, h]
theorem run_sizeOf' {P : Program} {t : TypeId} {d : TypeDesc} (h : P.underlying t = some d) (w : World) : (sizeOf t).run P w = .ok (P.cellsOf t) w := by
  unfold Program.underlying at h
  unfold sizeOf typeInfo Program.cellsOf
  split at h
  · rename_i hi; simp [hi]
  · rename_i hi; simp [hi]
  · cases h
theorem cellsOf_info {P : Program} {t : TypeId} {n : Nat} (h : P.cellsOf t = n) (h0 : n ≠ 0) (w : World) : (sizeOf t).run P w = .ok n w := by
  unfold Program.cellsOf at h
  unfold sizeOf typeInfo
  cases hi : P.info? t with
  | none => simp [hi] at h; omega
  | some i => simp [hi] at h; simp [hi, h]
theorem run_isAgg {P : Program} {t : TypeId} {d : TypeDesc} (h : P.underlying t = some d) (w : World) :
    (isAgg t).run P w = .ok (aggSize P t).isSome w := by
  unfold isAgg aggSize
  simp only [Sem.run_bind, run_underlying' h, h]
  cases d <;> simp
theorem run_part {P : Program} {t : TypeId} {d : TypeDesc} (h : P.underlying t = some d) (cs : Array Value) (off : Nat) (w : World) :
    (part t cs off).run P w = match aggSize P t with
      | some n => .ok (.agg (cs.extract off (off + n))) w
      | none => match cs[off]? with | some v => .ok v w | none => .halt (.stuck "part: no such cell") w := by
  unfold part
  simp only [Sem.run_bind, run_isAgg h, Result.andThen_ok]
  cases ha : aggSize P t with
  | none => simp; cases cs[off]? <;> simp
  | some n =>
    have hn : P.cellsOf t = n := by
      unfold aggSize at ha
      split at ha <;> first | exact Option.some.inj ha | cases ha
    simp [run_sizeOf' h, hn]
theorem PartV_run {P : Program} {t : TypeId} {cs : Array Value} {off : Nat} {k : Value → Prop} (h : PartV P t cs off k) :
    ∃ v, (∀ w, (part t cs off).run P w = .ok v w) ∧ k v := by
  unfold PartV at h
  split at h
  · rename_i d ht; exact ⟨_, fun w => by rw [run_part ht]; simp [aggSize, ht], h⟩
  · rename_i d d' ht; exact ⟨_, fun w => by rw [run_part ht]; simp [aggSize, ht], h⟩
  · rename_i d h1 h2 ht
    obtain ⟨u, hu, h⟩ := h
    refine ⟨u, fun w => ?_, h.out⟩
    rw [run_part ht]
    have : aggSize P t = none := by
      unfold aggSize
      rw [ht]
      split
      · rename_i heq; exact absurd (Option.some.inj heq) (h1 _)
      · rename_i heq; exact absurd (Option.some.inj heq) (h2 _ _)
      · rfl
    simp [this, hu]
  · exact h.elim
theorem intBits_ok (ik : IntKind) (a b : Int) (w : World) (P : Program) (op : BinOp) (r : BitVec ik.bits)
    (h : match op with | .and => r = BitVec.ofInt ik.bits a &&& BitVec.ofInt ik.bits b | .or => r = BitVec.ofInt ik.bits a ||| BitVec.ofInt ik.bits b | .xor => r = BitVec.ofInt ik.bits a ^^^ BitVec.ofInt ik.bits b | .andNot => r = BitVec.ofInt ik.bits a &&& ~~~(BitVec.ofInt ik.bits b) | _ => False) :
    (Op.intBits op ik a b).run P w = .ok (.int ik (ik.wrap (r.toNat : Int))) w := by
  unfold Op.intBits
  cases op <;> simp only at h <;> first | exact h.elim | (subst h; simp)
theorem vInt_run {P : Program} {op : BinOp} {ik ik' : IntKind} {a b : Int} {k : Value → Prop} (h : vInt op ik a ik' b k) :
    ∃ v, (∀ w, (binOp op 0 (.int ik a) (.int ik' b)).run P w = .ok v w) ∧ k v := by
  cases op <;> simp only [vInt] at h
  case shl => exact ⟨_, fun w => by simp [binOp, Op.shift, Int.not_lt.2 h.1], h.2⟩
  case shr => exact ⟨_, fun w => by simp [binOp, Op.shift, Int.not_lt.2 h.1], h.2⟩
  case add => replace h := h.out; obtain ⟨rfl, h⟩ := h; exact ⟨_, fun w => by simp [binOp, Op.intArith], h⟩
  case sub => replace h := h.out; obtain ⟨rfl, h⟩ := h; exact ⟨_, fun w => by simp [binOp, Op.intArith], h⟩
  case mul => replace h := h.out; obtain ⟨rfl, h⟩ := h; exact ⟨_, fun w => by simp [binOp, Op.intArith], h⟩
  case quo => replace h := h.out; obtain ⟨rfl, h0, h⟩ := h; exact ⟨_, fun w => by simp [binOp, Op.intDiv, h0], h⟩
  case rem => replace h := h.out; obtain ⟨rfl, h0, h⟩ := h; exact ⟨_, fun w => by simp [binOp, Op.intDiv, h0], h⟩
  case and => replace h := h.out; obtain ⟨rfl, h⟩ := h; exact ⟨_, fun w => by simp only [binOp, ne_eq, not_true_eq_false, if_false]; exact intBits_ok ik a b w P .and _ rfl, h⟩
  case or => replace h := h.out; obtain ⟨rfl, h⟩ := h; exact ⟨_, fun w => by simp only [binOp, ne_eq, not_true_eq_false, if_false]; exact intBits_ok ik a b w P .or _ rfl, h⟩
  case xor => replace h := h.out; obtain ⟨rfl, h⟩ := h; exact ⟨_, fun w => by simp only [binOp, ne_eq, not_true_eq_false, if_false]; exact intBits_ok ik a b w P .xor _ rfl, h⟩
  case andNot => replace h := h.out; obtain ⟨rfl, h⟩ := h; exact ⟨_, fun w => by simp only [binOp, ne_eq, not_true_eq_false, if_false]; exact intBits_ok ik a b w P .andNot _ rfl, h⟩
  all_goals (replace h := h.out; obtain ⟨rfl, h⟩ := h; exact ⟨_, fun w => by simp [binOp, Op.intCmp], h⟩)
theorem binOp_int_type (op : BinOp) (t t' : TypeId) (ik ik' : IntKind) (a b : Int) : binOp op t (.int ik a) (.int ik' b) = binOp op t' (.int ik a) (.int ik' b) := by
  cases op <;> rfl
theorem vStr_run {P : Program} {op : BinOp} {a b : ByteArray} {k : Value → Prop} (t : TypeId) (h : vStr op a b k) :
    ∃ v, (∀ w, (binOp op t (.string a) (.string b)).run P w = .ok v w) ∧ k v := by
  cases op <;> simp only [vStr] at h
  case add => exact ⟨_, fun w => by simp only [binOp, Op.stringOp]; rw [if_neg (by omega)]; rfl, h.2⟩
  all_goals first | exact h.elim | exact ⟨_, fun w => by simp [binOp, Op.stringOp], h⟩
theorem eqGuard_plain {P : Program} {op : BinOp} {t : TypeId} {x y : Operand} {a b : Value} (w : World)
    (h : (match a, b with | .nilIface, .nilIface => false | .agg _, .agg _ => false | _, _ => true) = true) : (eqGuard op t x y a b).run P w = .ok () w := by
  unfold eqGuard
  split
  · simp only [Bool.not_true, Bool.false_eq_true, if_false]
    cases a <;> cases b <;> first | rfl | simp at h
  · simp only [Bool.not_true, Bool.false_eq_true, if_false]
    cases a <;> cases b <;> first | rfl | simp at h
  · simp

theorem RunP.mono {P : Program} {s : Sem Value} {k k' : Value → Prop} (h : RunP P s k) (hk : ∀ v, k v → k' v) : RunP P s k' :=
  let ⟨u, h1, h2⟩ := h; ⟨u, h1, hk _ h2⟩
def isInt (v : Option Value) (n : Option Int) : Prop := match v, n with | none, none => True | some v, some n => ∃ ik, v = .int ik n | _, _ => False
theorem run_sliceBounds {P : Program} (w : World) (isS : Bool) (len cap : Nat) {lo hi : Option Value} {lo' hi' : Option Int} {l h : Nat}
    (hl0 : isInt lo lo') (hh0 : isInt hi hi')
    (hl : isLo lo' l) (hh : isHi hi' len h) (hlh : l ≤ h) (hc : h ≤ cap) :
    (Instr.sliceBounds isS len cap lo hi none).run P w = .ok (l, h, cap) w := by
  have hb : ∀ (ik : IntKind) (n : Int) (m y : Nat) (c : BoundsCode), n = m → m ≤ y → (Instr.sliceBound (.int ik n) y c).run P w = .ok m w := by
    intro ik n m y c hn hm
    subst hn
    simp only [Instr.sliceBound, asIntOf]
    simp only [Sem.run_bind, Sem.run_pure, Result.andThen_ok]
    rw [if_pos ⟨by omega, by omega⟩]
    simp
  unfold Instr.sliceBounds
  cases hi with
  | none =>
    cases hi' with
    | some _ => exact hh0.elim
    | none =>
      simp only [isHi] at hh
      subst hh
      cases lo with
      | none =>
        cases lo' with
        | some _ => exact hl0.elim
        | none => simp only [isLo] at hl; subst hl; simp
      | some v =>
        cases lo' with
        | none => exact hl0.elim
        | some n =>
          obtain ⟨ik, rfl⟩ := hl0
          simp [hb ik n l h _ hl hlh]
  | some u =>
    cases hi' with
    | none => exact hh0.elim
    | some m =>
      obtain ⟨ik, rfl⟩ := hh0
      cases lo with
      | none =>
        cases lo' with
        | some _ => exact hl0.elim
        | none => simp only [isLo] at hl; subst hl; simp [hb ik m h cap _ hh hc]
      | some v =>
        cases lo' with
        | none => exact hl0.elim
        | some n =>
          obtain ⟨ik', rfl⟩ := hl0
          simp [hb ik m h cap _ hh hc, hb ik' n l h _ hl hlh]
theorem intOp_out {e : Env} {x : Option Operand} {k : Option Int → Prop} (h : intOp (x.map (rho e)) k) :
    ∃ n, isInt (x.map (rho e)) n ∧ k n := by
  cases x with
  | none => exact ⟨none, trivial, h⟩
  | some y =>
    simp only [Option.map_some, intOp] at h ⊢
    split at h
    · rename_i heq; cases heq
    · rename_i ik n heq
      exact ⟨some n, by rw [Option.some.inj heq]; exact ⟨_, rfl⟩, h⟩
    · exact h.elim

theorem Sz.out {P : Program} {t : TypeId} {k : Nat → Prop} (h : Sz P t k) : ∃ i, P.info? t = some i ∧ (∀ w, (sizeOf t).run P w = .ok i.size w) ∧ k i.size := by
  unfold Sz at h
  split at h
  · rename_i i hi; exact ⟨i, hi, fun w => by simp [sizeOf, typeInfo, hi], h⟩
  · exact h.elim
theorem foldl_set (off : Nat) : ∀ (l : List Value) (j : Nat) (cells : Array Value), off + j + l.length ≤ cells.size →
    ((l.zipIdx j).foldl (fun cs (x : Value × Nat) => cs.setIfInBounds (off + x.2) x.1) cells).toList = cells.toList.take (off + j) ++ l ++ cells.toList.drop (off + j + l.length)
  | [], j, cells, h => by simp
  | v :: l, j, cells, h => by
    simp only [List.length_cons] at h
    rw [List.zipIdx_cons, List.foldl_cons, foldl_set off l (j + 1) _ (by simp; omega)]
    apply List.ext_getElem?
    intro i
    have hs : (cells.setIfInBounds (off + j) v).toList = cells.toList.set (off + j) v := by simp
    simp only [hs]
    have hlen : (cells.toList.take (off + j)).length = off + j := by simp; omega
    have hlen' : ((cells.toList.set (off + j) v).take (off + (j + 1))).length = off + (j + 1) := by simp; omega
    rcases Nat.lt_trichotomy i (off + j) with hi | hi | hi
    · rw [List.append_assoc, List.getElem?_append_left (by rw [hlen']; omega), List.append_assoc, List.getElem?_append_left (by rw [hlen]; omega), List.getElem?_take_of_lt (by omega), List.getElem?_take_of_lt hi, List.getElem?_set_ne (by omega)]
    · subst hi
      rw [List.append_assoc, List.getElem?_append_left (by rw [hlen']; omega), List.append_assoc, List.getElem?_append_right (by rw [hlen]; omega), hlen, List.getElem?_take_of_lt (by omega), List.getElem?_set_self (by simp; omega)]
      simp
    · have e1 : i - (off + j) = (i - (off + (j + 1))) + 1 := by omega
      have hR : (cells.toList.take (off + j) ++ (v :: l) ++ cells.toList.drop (off + j + (v :: l).length))[i]? = (l ++ cells.toList.drop (off + j + (v :: l).length))[i - (off + (j + 1))]? := by
        rw [List.append_assoc, List.getElem?_append_right (by rw [hlen]; omega), hlen, e1, List.cons_append, List.getElem?_cons_succ]
      rw [hR, List.append_assoc, List.getElem?_append_right (by rw [hlen']; omega), hlen']
      rcases Nat.lt_or_ge (i - (off + (j + 1))) l.length with h1 | h1
      · rw [List.getElem?_append_left h1, List.getElem?_append_left h1]
      · rw [List.getElem?_append_right h1, List.getElem?_append_right h1, List.getElem?_drop, List.getElem?_drop, List.getElem?_set_ne (by omega)]
        congr 1
        simp only [List.length_cons]; omega
inductive Placed (place : Nat → Option (Nat × Nat)) : List (Nat × Value) → List (Nat × Nat × Value) → Prop
  | nil : Placed place [] []
  | cons {i : Nat} {v : Value} {off sz : Nat} {r : List (Nat × Value)} {q : List (Nat × Nat × Value)} (h : place i = some (off, sz)) (t : Placed place r q) : Placed place ((i, v) :: r) ((off, sz, v) :: q)
theorem fill_splice (place : Nat → Option (Nat × Nat)) : ∀ (parts : List (Nat × Value)) (ps : List (Nat × Nat × Value)) (cells : Array Value),
    Placed place parts ps → partsOk cells.size ps →
    Instr.fill place cells parts = some (splice cells.toList ps).toArray
  | [], _, cells, h, _ => by cases h; simp [Instr.fill, splice]
  | (i, v) :: r, _, cells, h, hok => by
    cases h with
    | cons hp h2 =>
      rename_i off sz qs
      obtain ⟨hsz, hle, hok'⟩ := hok
      simp only [Instr.fill, hp]
      rw [if_neg (by simp [hsz]; omega)]
      have hf := foldl_set off v.cells.toList 0 cells (by simp [hsz]; omega)
      have hf' : (v.cells.zipIdx.foldl (fun cs (x : Value × Nat) => cs.setIfInBounds (off + x.2) x.1) cells).toList = cells.toList.take off ++ v.cells.toList ++ cells.toList.drop (off + sz) := by
        rw [← Array.foldl_toList]
        simpa [hsz] using hf
      have hsize : (v.cells.zipIdx.foldl (fun cs (x : Value × Nat) => cs.setIfInBounds (off + x.2) x.1) cells).size = cells.size := by
        rw [← Array.length_toList, hf']; simp [hsz]; omega
      have := fill_splice place r qs _ h2 (by rw [hsize]; exact hok')
      rw [this, hf']
      rfl

theorem run_mapM_list {P : Program} {α β : Type} (f : α → Sem β) (g : α → β) (w : World) : ∀ (l : List α), (∀ x ∈ l, (f x).run P w = .ok (g x) w) → (l.mapM f).run P w = .ok (l.map g) w
  | [], _ => by simp
  | x :: l, h => by
    rw [List.mapM_cons]
    simp only [Sem.run_bind, h x (by simp), Result.andThen_ok, run_mapM_list f g w l (fun y hy => h y (by simp [hy])), Sem.run_pure, List.map_cons]
theorem run_mapM {P : Program} {α β : Type} (f : α → Sem β) (g : α → β) (w : World) (l : Array α) (h : ∀ x ∈ l.toList, (f x).run P w = .ok (g x) w) : (l.mapM f).run P w = .ok (l.map g) w := by
  have e : l.mapM f = List.toArray <$> l.toList.mapM f := Array.mapM_eq_mapM_toList
  rw [e, Sem.run_map, run_mapM_list f g w l.toList h]
  simp only [Result.andThen_ok]
  exact congrArg (fun x => Result.ok x w) (Array.toList_inj.1 (by simp))
theorem infoAll_spec {P : Program} : ∀ (l : List Field), infoAll P l = true → ∀ f ∈ l, ∃ i, P.info? f.type = some i
  | [], _, _, hf => by cases hf
  | g :: r, h, f, hf => by
    unfold infoAll at h
    split at h
    · rename_i i hi
      cases hf with
      | head => exact ⟨i, hi⟩
      | tail _ hf => exact infoAll_spec r h f hf
    · cases h
theorem places_struct {P : Program} {t : TypeId} {fs : Array Field} (ht : P.underlying t = some (.struct fs)) : ∀ (l : List (Nat × Value)) (ps : List (Nat × Nat × Value)),
    places P t l = some ps → Placed (fun i => (fs.map fun f => (f.offset, P.cellsOf f.type))[i]?) l ps
  | [], ps, h => by simp [places] at h; subst h; exact .nil
  | (i, v) :: r, ps, h => by
    unfold places at h
    rw [ht] at h
    simp only at h
    split at h
    · rename_i f hf
      split at h
      · rename_i d hd
        split at h
        · rename_i l hl
          cases h
          refine .cons ?_ (places_struct ht r l hl)
          simp [hf, Program.cellsOf, hd]
        · cases h
      · cases h
    · cases h
theorem places_array {P : Program} {t n el : TypeId} (ht : P.underlying t = some (.array n el)) : ∀ (l : List (Nat × Value)) (ps : List (Nat × Nat × Value)),
    places P t l = some ps → Placed (fun i => some (i * P.cellsOf el, P.cellsOf el)) l ps
  | [], ps, h => by simp [places] at h; subst h; exact .nil
  | (i, v) :: r, ps, h => by
    unfold places at h
    rw [ht] at h
    simp only at h
    split at h
    · rename_i d hd
      split at h
      · rename_i l hl
        cases h
        refine .cons ?_ (places_array ht r l hl)
        simp [Program.cellsOf, hd]
      · cases h
    · cases h
theorem places_slice {P : Program} {t el : TypeId} (ht : P.underlying t = some (.slice el)) : ∀ (l : List (Nat × Value)) (ps : List (Nat × Nat × Value)),
    places P t l = some ps → Placed (fun i => some (i * P.cellsOf el, P.cellsOf el)) l ps
  | [], ps, h => by simp [places] at h; subst h; exact .nil
  | (i, v) :: r, ps, h => by
    unfold places at h
    rw [ht] at h
    simp only at h
    split at h
    · rename_i d hd
      split at h
      · rename_i l hl
        cases h
        refine .cons ?_ (places_slice ht r l hl)
        simp [Program.cellsOf, hd]
      · cases h
    · cases h
theorem run_zero {P : Program} {t : TypeId} {z : Value} (hz : zeroOf P t = some z) (w : World) : (zeroValue t).run P w = .ok z w := by
  unfold zeroOf at hz
  unfold zeroValue typeInfo
  cases hi : P.info? t with
  | none => rw [hi] at hz; cases hz
  | some i =>
    rw [hi] at hz
    simp only [Option.bind_some] at hz
    simp [hi, hz]
theorem run_build {P : Program} {t : TypeId} {z : Value} {parts : Array (Nat × Value)} {ps : List (Nat × Nat × Value)} (hz : zeroOf P t = some z) (hps : places P t parts.toList = some ps)
    (hf : fieldsOk P t = true) (hok : partsOk z.cells.toList.length ps) (w : World) :
    (Instr.build t parts).run P w = .ok (.agg (splice z.cells.toList ps).toArray) w := by
  unfold Instr.build
  simp only [Sem.run_bind, run_zero hz, Result.andThen_ok]
  unfold fieldsOk at hf
  split at hf
  · rename_i fs ht
    simp only [run_underlying' ht, Result.andThen_ok]
    have hm := run_mapM (P := P) (fun f : Field => (do pure (f.offset, ← sizeOf f.type) : Sem (Nat × Nat))) (fun f => (f.offset, P.cellsOf f.type)) w fs (fun f hfm => by
      obtain ⟨i, hi⟩ := infoAll_spec _ hf f hfm
      simp [sizeOf, typeInfo, Program.cellsOf, hi])
    simp only [Sem.run_bind, hm, Result.andThen_ok]
    rw [fill_splice _ _ _ z.cells (places_struct ht _ _ hps) (by simpa using hok)]
    rfl
  · rename_i n el ht
    split at hf
    · rename_i i hi
      have hsz : (sizeOf el).run P w = .ok (P.cellsOf el) w := by simp [sizeOf, typeInfo, Program.cellsOf, hi]
      have := fill_splice _ _ _ z.cells (places_array ht _ _ hps) (by simpa using hok)
      simp only [run_underlying' ht, Result.andThen_ok]
      simp only [Sem.run_bind, hsz, Result.andThen_ok]
      rw [this]
      rfl
    · cases hf
  · cases hf

/-- What a pure operation yields. -/
theorem vPure_run {P : Program} {e : Env} {o : Oper} {k : Value → Prop} (h : vPure P e o.op k) :
    ∃ v, (∀ w, (execOp (rho e) o).run P w = .ok (.value v) w) ∧ k v := by
  obtain ⟨dst, op, type, pos, after, guard⟩ := o
  simp only at h
  cases op <;> simp only [vPure] at h
  case move x => exact ⟨_, fun w => rfl, h⟩
  case assign x => exact ⟨_, fun w => rfl, h⟩
  case pick c a b =>
    split at h
    · rename_i t hc
      refine ⟨_, fun w => ?_, h⟩
      simp only [execOp, hc, asBool]
      cases t <;> simp
    · exact h.elim
  case nilCheck x =>
    split at h
    · rename_i a hx
      split at h
      · exact ⟨_, fun w => by simp [execOp, hx], h⟩
      · exact h.elim
    · rename_i f first cap hx
      exact ⟨_, fun w => by simp [execOp, hx], h⟩
    · exact h.elim
  case fieldAddr t x i =>
    split at h
    · rename_i a hx
      split at h
      · rename_i fs ht
        split at h
        · rename_i f hf
          split at h
          · exact h.elim
          · rename_i hc
            have h0 : P.cellsOf f.type ≠ 0 := by
              intro h1; rw [h1] at hc; cases hc
            refine ⟨_, fun w => ?_, h⟩
            simp [execOp, hx, Instr.fieldAt, run_underlying' ht, hf, Instr.sureAddr, fieldPlace, cellsOf_info rfl h0, h0]
        · exact h.elim
      · exact h.elim
    · exact h.elim
  case field t x i =>
    unfold AsG at h
    split at h
    · rename_i cs hx
      split at h
      · rename_i fs ht
        split at h
        · rename_i f hf
          obtain ⟨v, hv, hk⟩ := PartV_run h
          exact ⟨v, fun w => by simp [execOp, hx, Instr.field, run_underlying' ht, hf, asAgg, hv], hk⟩
        · exact h.elim
      · exact h.elim
    · exact h.elim
  case indexAddr t x i =>
    split at h
    · rename_i ik n hi
      split at h
      · rename_i el ht
        split at h
        · rename_i b len cap hx
          obtain ⟨info, hinfo, hs, h⟩ := h.out
          obtain ⟨a, rfl, h0, h1, h⟩ := h
          exact ⟨_, fun w => by simp [execOp, hi, hx, Instr.indexAt, asIntOf, run_underlying' ht, h0, h1, hs], h⟩
        · exact h.elim
      · rename_i len el ht
        split at h
        · rename_i a hx
          obtain ⟨info, hinfo, hs, h⟩ := h.out
          obtain ⟨h0, h1, h⟩ := h
          exact ⟨_, fun w => by simp [execOp, hi, hx, Instr.indexAt, asIntOf, run_underlying' ht, h0, h1, hs, Instr.sureAddr], h⟩
        · exact h.elim
      · exact h.elim
    · exact h.elim
  case index t x i =>
    split at h
    · rename_i ik n hi
      split at h
      · rename_i ht
        split at h
        · rename_i s hx
          obtain ⟨c, h0, h1, h⟩ := h
          exact ⟨_, fun w => by simp [execOp, hi, hx, Instr.index, asIntOf, run_underlying' ht, h0, h1], h⟩
        · exact h.elim
      · rename_i len el ht
        unfold AsG at h
        split at h
        · rename_i cs hx
          obtain ⟨info, hinfo, hs, h⟩ := h.out
          obtain ⟨h0, h1, h⟩ := h
          obtain ⟨v, hv, hk⟩ := PartV_run h
          exact ⟨v, fun w => by simp [execOp, hi, hx, Instr.index, asIntOf, run_underlying' ht, h0, h1, hs, hv], hk⟩
        · exact h.elim
      · exact h.elim
    · exact h.elim
  case binOp op t x y yt =>
    have gen : ∀ {v : Value}, (∀ w, (binRun op t x y (rho e x) (rho e y)).run P w = .ok v w) → ∀ w, (execOp (rho e) { dst, op := .binOp op t x y yt, type, pos, after, guard }).run P w = .ok (.value v) w := by
      intro v hv w
      have := hv w
      simp only [execOp, binRun] at *
      simp only [Sem.run_bind] at *
      rw [this]; rfl
    have plain : ∀ {v : Value}, (match rho e x, rho e y with | .nilIface, .nilIface => false | .agg _, .agg _ => false | _, _ => true) = true →
        (∀ w, (binOp op t (rho e x) (rho e y)).run P w = .ok v w) → ∀ w, (binRun op t x y (rho e x) (rho e y)).run P w = .ok v w := by
      intro v hp hv w
      simp only [binRun, Sem.run_bind, eqGuard_plain w hp, Result.andThen_ok, hv w]
    split at h
    · split at h
      · rename_i ik a hx
        split at h
        · rename_i ik' b hy
          obtain ⟨v, hv, hk⟩ := vInt_run (P := P) h
          refine ⟨v, gen (plain (by rw [hx, hy]) fun w => ?_), hk⟩
          rw [hx, hy, binOp_int_type op t 0]; exact hv w
        · exact h.elim
      · exact h.elim
    · split at h
      · rename_i a hx
        split at h
        · rename_i b hy
          obtain ⟨v, hv, hk⟩ := vStr_run (P := P) t h
          refine ⟨v, gen (plain (by rw [hx, hy]) fun w => ?_), hk⟩
          rw [hx, hy]; exact hv w
        · exact h.elim
      · exact h.elim
    · obtain ⟨v, hv, b, rfl, hk⟩ := h
      exact ⟨_, gen hv, hk⟩
  case unOp op t x =>
    split at h
    · rename_i b hx; exact ⟨_, fun w => by simp [execOp, hx, Op.unary], h⟩
    · rename_i ik n hx; exact ⟨_, fun w => by simp [execOp, hx, Op.unary, Op.intArith], h⟩
    · rename_i ik n hx
      refine ⟨_, fun w => ?_, h⟩
      have := intBits_ok ik (if ik.signed then -1 else ik.max) n w P .xor _ rfl
      simp only [execOp, hx, Op.unary]
      simp only [Sem.run_bind, this]
      rfl
    · exact h.elim
  case convert src dst x =>
    split at h
    · rename_i ik n hx
      split at h
      · rename_i ik' hs
        split at h
        · rename_i ik'' hd
          exact ⟨_, fun w => by simp [execOp, hx, convert, run_underlying' hs, run_underlying' hd, Conv.intToInt], h⟩
        · exact h.elim
      · exact h.elim
    · rename_i s hx
      split at h
      · rename_i hs hd
        exact ⟨_, fun w => by simp [execOp, hx, convert, run_underlying' hs, run_underlying' hd], h⟩
      · exact h.elim
    · exact h.elim
  case makeInterface t x =>
    split at h
    · exact h.elim
    · rename_i d hn ht
      refine ⟨_, fun w => ?_, h⟩
      simp only [execOp, Instr.makeInterface, Sem.run_bind, run_underlying' ht, Result.andThen_ok]
      cases d <;> first | rfl | exact absurd rfl (hn _)
    · exact h.elim
  case makeFunc fn first cap => exact ⟨_, fun w => rfl, h⟩
  case extract x i =>
    split at h
    · rename_i vs hx
      split at h
      · rename_i v hv; exact ⟨_, fun w => by simp [execOp, hx, Instr.extract, hv], h⟩
      · exact h.elim
    · exact h.elim
  case slice t x lo hi mx =>
    split at h
    · exact h.elim
    · obtain ⟨l, hl, h⟩ := intOp_out h
      obtain ⟨u, hu, h⟩ := intOp_out h
      split at h
      · rename_i ht
        split at h
        · rename_i s hx
          obtain ⟨i, j, h1, h2, h3, h4, hk⟩ := h
          refine ⟨_, fun w => ?_, hk⟩
          have := run_sliceBounds (P := P) w false s.size s.size hl hu h1 h2 h3 h4
          simp [execOp, hx, Instr.sliceAt, Instr.slice, run_underlying' ht, this]
        · exact h.elim
      · rename_i el ht
        split at h
        · rename_i a len cap hx
          obtain ⟨info, hinfo, hs, h⟩ := h.out
          obtain ⟨i, j, h1, h2, h3, h4, hk⟩ := h
          refine ⟨_, fun w => ?_, hk⟩
          have := run_sliceBounds (P := P) w true len cap hl hu h1 h2 h3 h4
          simp [execOp, hx, Instr.sliceAt, Instr.slice, run_underlying' ht, this, hs]
        · exact h.elim
      · rename_i n el ht
        split at h
        · rename_i a hx
          obtain ⟨info, hinfo, hs, h⟩ := h.out
          obtain ⟨i, j, h1, h2, h3, h4, hk⟩ := h
          refine ⟨_, fun w => ?_, hk⟩
          have := run_sliceBounds (P := P) w false n n hl hu h1 h2 h3 h4
          simp [execOp, hx, Instr.sliceAt, Instr.sureAddr, run_underlying' ht, this, hs]
        · exact h.elim
      · exact h.elim
  case build t parts =>
    split at h
    · rename_i z hz
      split at h
      · rename_i ps hps
        split at h
        · rename_i hf
          obtain ⟨hok, hk⟩ := h
          refine ⟨_, fun w => ?_, hk⟩
          simp only [execOp]
          have := run_build (P := P) (parts := parts.map fun (i, x) => (i, rho e x)) hz (by simpa using hps) hf hok w
          simp only [Sem.run_bind, this]
          rfl
        · exact h.elim
      · exact h.elim
    · exact h.elim
  case call c =>
    obtain ⟨callee, args, argTypes⟩ := c
    obtain ⟨args⟩ := args
    have hrun : ∀ (b : Builtin) (l : Array Value) (v : Value) (s : Sem Next) (w : World), callee = .builtin b → (args.map (rho e)).toArray = l →
        (∀ cs, (builtin b argTypes type cs l).run P w = .ok (.value v) w) →
        (execOp (rho e) { dst, op := .call ⟨callee, args.toArray, argTypes⟩, type, pos, after, guard }).run P w = .ok (.value v) w := by
      intro b l v s w hc hl hv
      subst hc
      simp only [execOp, resolve, List.map_toArray, hl]
      simp only [Sem.run_bind, Sem.run_pure, Result.andThen_ok, invoke]
      exact hv _
    split at h
    · rename_i hc
      split at h
      · rename_i x hx
        simp only at hc hx
        subst hx
        split at h
        · rename_i a n cp hv
          split at h
          · rename_i el ht
            refine ⟨_, fun w => hrun .len #[.slice a n cp] _ (stuck "") w hc (by simp [hv]) (fun cs => ?_), h⟩
            cases h0 : argTypes[0]? with
            | none => rw [h0] at ht; cases ht
            | some t0 =>
              rw [h0] at ht
              simp [builtin, Builtin.len_, h0, run_underlying' ht, goInt]
          · exact h.elim
        · rename_i s hv
          split at h
          · rename_i ht
            refine ⟨_, fun w => hrun .len #[.string s] _ (stuck "") w hc (by simp [hv]) (fun cs => ?_), h⟩
            cases h0 : argTypes[0]? with
            | none => rw [h0] at ht; cases ht
            | some t0 =>
              rw [h0] at ht
              simp [builtin, Builtin.len_, h0, run_underlying' ht, goInt]
          · exact h.elim
        · split at h
          · rename_i n el ht
            refine ⟨_, fun w => hrun .len #[rho e x] _ (stuck "") w hc (by simp) (fun cs => ?_), h⟩
            cases h0 : argTypes[0]? with
            | none => rw [h0] at ht; cases ht
            | some t0 =>
              rw [h0] at ht
              simp [builtin, Builtin.len_, h0, run_underlying' ht, goInt]
          · exact h.elim
      · exact h.elim
    · rename_i hc
      split at h
      · rename_i x y hx
        simp only at hc hx
        subst hx
        split at h
        · rename_i ik a ik' b hv hv'
          refine ⟨_, fun w => hrun .max #[.int ik a, .int ik' b] _ (stuck "") w hc (by simp [hv, hv']) (fun cs => ?_), h⟩
          simp [builtin, Builtin.max_, Builtin.max2]
        · exact h.elim
      · exact h.elim
    · rename_i hc
      split at h
      · rename_i x y hx
        simp only at hc hx
        subst hx
        split at h
        · rename_i ik a ik' b hv hv'
          refine ⟨_, fun w => hrun .min #[.int ik a, .int ik' b] _ (stuck "") w hc (by simp [hv, hv']) (fun cs => ?_), h⟩
          simp [builtin, Builtin.min_, Builtin.min2]
        · exact h.elim
      · exact h.elim
    · exact h.elim
  all_goals exact h.elim
end Go.Vc
