/- Calls whose arguments are known, run by the kernel: the values of such a run, and how they stand for values of the model. -/
import Derived.Test.YtmhmlneobbgadaaGreatDoorVcG
namespace Go.Xv
open Go Go.RowKit Go.Vc

/-- One cell: a value without an address of the run's own; a pointer, a slice into the run's own block b; a slice of n items from the item i on of a row that has grown (how much it may still hold is not known); a function with what it holds, places of the run's own; the yield of a range's record; a map; a channel; an interface that holds a pointer. -/
inductive C1 where
  | k (v : Value)
  | p (b off : Nat)
  | s (b off n c : Nat)
  | u (b off i n : Nat)
  | f (g : FuncId) (as bs : List (Nat × Nat))
  | y (b : Nat)
  | m (b : Nat)
  | h (b : Nat)
  | i (b off : Nat) (t : TypeId)
/-- One cell, or the cells of a struct or an array. -/
inductive PV where
  | o (c : C1)
  | g (cs : List C1)
inductive CV where
  | p (x : PV)
  | t (xs : List PV)
/-- Where the run's blocks lie, how many items they hold, if they have grown, and of which range a record is. -/
abbrev Ro := Nat → Option (Nat × Nat × LoopRec)
def upQ (r : Ro) : List (Nat × Nat) → Option (List Value)
  | [] => some []
  | (b, off) :: l => match r b, upQ r l with | some x, some m => some (.pointer (some ⟨x.1, off, none⟩) :: m) | _, _ => none
def up1 (r : Ro) : C1 → Option Value
  | .k v => some v
  | .p b off => (match r b with | some x => some (.pointer (some ⟨x.1, off, none⟩)) | none => none)
  | .s b off n c => (match r b with | some x => some (.slice (some ⟨x.1, off, none⟩) n c) | none => none)
  | .u b off i n => (match r b with | some x => (match Nat.ble (i + n) x.2.1 with | true => some (.slice (some ⟨x.1, off, none⟩) n (x.2.1 - i)) | false => none) | none => none)
  | .f g as bs => (match upQ r as, upQ r bs with | some a, some b => some (.func (.func g) a.toArray b.toArray) | _, _ => none)
  | .y b => (match r b with | some x => some (.func (.yield x.1) #[] #[]) | none => none)
  | .m b => (match r b with | some x => some (.map (some x.1)) | none => none)
  | .h b => (match r b with | some x => some (.chan (some x.1)) | none => none)
  | .i b off t => (match r b with | some x => some (.iface t (.pointer (some ⟨x.1, off, none⟩))) | none => none)
def upL (r : Ro) : List C1 → Option (List Value)
  | [] => some []
  | c :: cs => match up1 r c, upL r cs with | some v, some l => some (v :: l) | _, _ => none
def upP (r : Ro) : PV → Option Value
  | .o c => up1 r c
  | .g cs => match upL r cs with | some l => some (.agg l.toArray) | none => none
def upPs (r : Ro) : List PV → Option (List Value)
  | [] => some []
  | c :: cs => match upP r c, upPs r cs with | some v, some l => some (v :: l) | _, _ => none
def upV (r : Ro) : CV → Option Value
  | .p x => upP r x
  | .t xs => match upPs r xs with | some l => some (.tuple l.toArray) | none => none
abbrev XE := List (Nat × CV)
noncomputable def XE.get (e : XE) (n : Nat) : Option CV := List.rec none (fun p _ ih => Bool.rec ih (some p.2) (Nat.beq p.1 n)) e
theorem XE.get_cons (m : Nat) (v : CV) (r : XE) (n : Nat) : XE.get ((m, v) :: r) n = match Nat.beq m n with | true => some v | false => XE.get r n := by
  show (Bool.rec (XE.get r n) (some v) (Nat.beq m n) : Option CV) = _
  cases Nat.beq m n <;> rfl
def XE.put (e : XE) (d : Option Nat) (v : CV) : XE := match d with | none => e | some d => (d, v) :: e
noncomputable def memR (l : List Nat) (n : Nat) : Bool := List.rec false (fun m _ ih => Bool.rec ih true (Nat.beq m n)) l
theorem memR_eq : ∀ (l : List Nat) (n : Nat), memR l n = memB l n
  | [], _ => rfl
  | m :: l, n => by
    show (Bool.rec (memR l n) true (Nat.beq m n) : Bool) = _
    unfold memB
    cases Nat.beq m n with
    | true => rfl
    | false => exact memR_eq l n
noncomputable def XE.drop (e : XE) (l : List Nat) : XE := List.rec [] (fun p _ ih => Bool.rec (p :: ih) ih (memR l p.1)) e
theorem XE.drop_cons (m : Nat) (v : CV) (r : XE) (l : List Nat) : XE.drop ((m, v) :: r) l = match memB l m with | true => XE.drop r l | false => (m, v) :: XE.drop r l := by
  show (Bool.rec ((m, v) :: XE.drop r l) (XE.drop r l) (memR l m) : XE) = _
  rw [memR_eq]
  cases memB l m <;> rfl
/-- The slots hold what is told of them, and nothing else is held. -/
def UE (r : Ro) (E : XE) (e : Env) : Prop := ∀ n, match E.get n with | some c => ∃ v, e.get n = some v ∧ upV r c = some v | none => e.get n = none
/-- The slots hold what is told of them. -/
def Le (r : Ro) (E : XE) (e : Env) : Prop := ∀ n c, E.get n = some c → ∃ v, e.get n = some v ∧ upV r c = some v
theorem UE.get {r : Ro} {E : XE} {e : Env} {n : Nat} {c : CV} (h : UE r E e) (hc : E.get n = some c) : ∃ v, e.get n = some v ∧ upV r c = some v := by
  have := h n; rw [hc] at this; exact this
theorem UE.non {r : Ro} {E : XE} {e : Env} {n : Nat} (h : UE r E e) (hc : E.get n = none) : e.get n = none := by
  have := h n; rw [hc] at this; exact this
theorem UE.le {r : Ro} {E : XE} {e : Env} (h : UE r E e) : Le r E e := fun _ _ hc => h.get hc
theorem UE.nil (r : Ro) : UE r [] [] := fun _ => rfl
def Ext (r r' : Ro) : Prop := ∀ b x, r b = some x → r' b = some x
theorem Ext.refl (r : Ro) : Ext r r := fun _ _ h => h
theorem Ext.trans {r s t : Ro} (h : Ext r s) (h' : Ext s t) : Ext r t := fun b x e => h' b x (h b x e)

section
variable {r r' : Ro}
theorem upQ_ext (h : Ext r r') : ∀ {l : List (Nat × Nat)} {m : List Value}, upQ r l = some m → upQ r' l = some m
  | [], _, hc => hc
  | (b, off) :: l, m, hc => by
    unfold upQ at hc ⊢
    split at hc
    · rename_i x m' h1 h2; rw [h b x h1, upQ_ext h h2]; exact hc
    · cases hc
theorem up1_ext (h : Ext r r') {c : C1} {v : Value} (hc : up1 r c = some v) : up1 r' c = some v := by
  cases c with
  | k _ => exact hc
  | p b off =>
    simp only [up1] at hc ⊢
    cases hb : r b with
    | none => rw [hb] at hc; cases hc
    | some x => rw [hb] at hc; rw [h b x hb]; exact hc
  | s b off n c =>
    simp only [up1] at hc ⊢
    cases hb : r b with
    | none => rw [hb] at hc; cases hc
    | some x => rw [hb] at hc; rw [h b x hb]; exact hc
  | u b off i n =>
    simp only [up1] at hc ⊢
    cases hb : r b with
    | none => rw [hb] at hc; cases hc
    | some x => rw [hb] at hc; rw [h b x hb]; exact hc
  | f g as bs =>
    simp only [up1] at hc ⊢
    split at hc
    · rename_i a b h1 h2; rw [upQ_ext h h1, upQ_ext h h2]; exact hc
    · cases hc
  | _ b =>
    simp only [up1] at hc ⊢
    cases hb : r b with
    | none => rw [hb] at hc; cases hc
    | some x => rw [hb] at hc; rw [h b x hb]; exact hc
theorem upL_cons {c : C1} {cs : List C1} {l : List Value} (h : upL r (c :: cs) = some l) : ∃ v m, l = v :: m ∧ up1 r c = some v ∧ upL r cs = some m := by
  unfold upL at h
  split at h
  · rename_i v m h1 h2; cases h; exact ⟨v, m, rfl, h1, h2⟩
  · cases h
theorem upL_mk {c : C1} {cs : List C1} {v : Value} {m : List Value} (h1 : up1 r c = some v) (h2 : upL r cs = some m) : upL r (c :: cs) = some (v :: m) := by
  unfold upL; rw [h1, h2]
theorem upL_ext (h : Ext r r') : ∀ {cs : List C1} {l : List Value}, upL r cs = some l → upL r' cs = some l
  | [], _, hc => hc
  | c :: cs, l, hc => by
    obtain ⟨v, m, rfl, h1, h2⟩ := upL_cons hc
    exact upL_mk (up1_ext h h1) (upL_ext h h2)
theorem upP_ext (h : Ext r r') {c : PV} {v : Value} (hc : upP r c = some v) : upP r' c = some v := by
  cases c with
  | o c => exact up1_ext h hc
  | g cs =>
    simp only [upP] at hc ⊢
    cases hb : upL r cs with
    | none => rw [hb] at hc; cases hc
    | some l => rw [hb] at hc; rw [upL_ext h hb]; exact hc
theorem upPs_cons {c : PV} {cs : List PV} {l : List Value} (h : upPs r (c :: cs) = some l) : ∃ v m, l = v :: m ∧ upP r c = some v ∧ upPs r cs = some m := by
  unfold upPs at h
  split at h
  · rename_i v m h1 h2; cases h; exact ⟨v, m, rfl, h1, h2⟩
  · cases h
theorem upPs_mk {c : PV} {cs : List PV} {v : Value} {m : List Value} (h1 : upP r c = some v) (h2 : upPs r cs = some m) : upPs r (c :: cs) = some (v :: m) := by
  unfold upPs; rw [h1, h2]
theorem upPs_ext (h : Ext r r') : ∀ {cs : List PV} {l : List Value}, upPs r cs = some l → upPs r' cs = some l
  | [], _, hc => hc
  | c :: cs, l, hc => by
    obtain ⟨v, m, rfl, h1, h2⟩ := upPs_cons hc
    exact upPs_mk (upP_ext h h1) (upPs_ext h h2)
theorem upV_ext (h : Ext r r') {c : CV} {v : Value} (hc : upV r c = some v) : upV r' c = some v := by
  cases c with
  | p c => exact upP_ext h hc
  | t cs =>
    simp only [upV] at hc ⊢
    cases hb : upPs r cs with
    | none => rw [hb] at hc; cases hc
    | some l => rw [hb] at hc; rw [upPs_ext h hb]; exact hc
theorem UE.mk {E : XE} {e : Env} (hg : ∀ n, (E.get n = none → e.get n = none) ∧ ∀ c, E.get n = some c → ∃ v, e.get n = some v ∧ upV r c = some v) : UE r E e := fun n => by
  cases h : E.get n with
  | none => exact (hg n).1 h
  | some c => exact (hg n).2 c h
theorem UE.ext (h : Ext r r') {E : XE} {e : Env} (hE : UE r E e) : UE r' E e := .mk fun _ => ⟨hE.non, fun _ hc => let ⟨v, h1, h2⟩ := hE.get hc; ⟨v, h1, upV_ext h h2⟩⟩
theorem Le.ext (h : Ext r r') {E : XE} {e : Env} (hE : Le r E e) : Le r' E e := fun n c hc => let ⟨v, h1, h2⟩ := hE n c hc; ⟨v, h1, upV_ext h h2⟩
theorem env_get_cons (m : Nat) (v : Value) (l : Env) (n : Nat) : Env.get ((m, v) :: l) n = match Nat.beq m n with | true => some v | false => Env.get l n := rfl
theorem UE.cons {E : XE} {e : Env} {n : Nat} {c : CV} {v : Value} (h1 : upV r c = some v) (hE : UE r E e) : UE r ((n, c) :: E) ((n, v) :: e) := fun m => by
  rw [XE.get_cons, env_get_cons]
  cases Nat.beq n m with
  | true => exact ⟨v, rfl, h1⟩
  | false => exact hE m
theorem UE.put {E : XE} {e : Env} {c : CV} {v : Value} (hE : UE r E e) (hc : upV r c = some v) (d : Option Nat) : UE r (E.put d c) (e.put d v) := by
  cases d with
  | none => exact hE
  | some d => exact .cons hc hE
theorem XE.get_drop : ∀ (E : XE) (l : List Nat) (n : Nat), (E.drop l).get n = if memB l n = true then none else E.get n
  | [], l, n => by
    have : (XE.drop [] l).get n = none := rfl
    rw [this]; split <;> rfl
  | (m, c) :: E, l, n => by
    rw [XE.drop_cons]
    cases hm : memB l m with
    | true =>
      dsimp only
      rw [XE.get_drop E l n]
      split
      · rfl
      · rename_i hn
        rw [XE.get_cons]
        cases hb : Nat.beq m n with
        | true => rw [Nat.eq_of_beq_eq_true hb] at hm; exact absurd hm hn
        | false => rfl
    | false =>
      dsimp only
      rw [XE.get_cons, XE.get_cons, XE.get_drop E l n]
      cases hb : Nat.beq m n with
      | true =>
        rw [Nat.eq_of_beq_eq_true hb] at hm
        dsimp only
        rw [if_neg (by rw [hm]; exact fun h => by cases h)]
      | false => rfl
theorem UE.drop {E : XE} {e : Env} (hE : UE r E e) (l : List Nat) : UE r (E.drop l) (e.drop l) := fun n => by
  rw [XE.get_drop, get_drop]
  by_cases h : memB l n = true
  · rw [if_pos h, if_pos h]
  · rw [if_neg h, if_neg h]; exact hE n
theorem XE.get_app : ∀ (E F : XE) (n : Nat), XE.get (E ++ F) n = match E.get n with | some c => some c | none => F.get n
  | [], F, n => rfl
  | (m, c) :: E, F, n => by
    rw [List.cons_append, XE.get_cons, XE.get_cons, XE.get_app E F n]
    cases Nat.beq m n <;> rfl
theorem UE.app {E F : XE} {e f : Env} (hE : UE r E e) (hF : UE r F f) : UE r (E ++ F) (e ++ f) := fun n => by
  rw [XE.get_app, get_append]
  cases h : E.get n with
  | some c => obtain ⟨v, h1, h2⟩ := hE.get h; rw [h1]; exact ⟨v, rfl, h2⟩
  | none => rw [hE.non h]; exact hF n
theorem upL_len : ∀ {cs : List C1} {l : List Value}, upL r cs = some l → l.length = cs.length
  | [], l, h => by cases h; rfl
  | c :: cs, l, h => by
    obtain ⟨v, m, rfl, _, h2⟩ := upL_cons h
    rw [List.length_cons, List.length_cons, upL_len h2]
theorem upL_at : ∀ {cs : List C1} {l : List Value} {i : Nat} {c : C1}, upL r cs = some l → cs[i]? = some c → ∃ v, l[i]? = some v ∧ up1 r c = some v
  | [], _, _, _, _, h => by simp at h
  | c :: cs, l, i, d, hl, h => by
    obtain ⟨v, m, rfl, h1, h2⟩ := upL_cons hl
    cases i with
    | zero => simp at h; subst h; exact ⟨v, rfl, h1⟩
    | succ i => simp at h; simpa using upL_at h2 h
theorem upL_drop : ∀ {cs : List C1} {l : List Value} (n : Nat), upL r cs = some l → upL r (cs.drop n) = some (l.drop n)
  | [], l, n, h => by cases h; simp [upL]
  | c :: cs, l, n, h => by
    obtain ⟨v, m, rfl, h1, h2⟩ := upL_cons h
    cases n with
    | zero => exact h
    | succ n => simpa using upL_drop n h2
theorem upL_take : ∀ {cs : List C1} {l : List Value} (n : Nat), upL r cs = some l → upL r (cs.take n) = some (l.take n)
  | [], l, n, h => by cases h; simp [upL]
  | c :: cs, l, n, h => by
    obtain ⟨v, m, rfl, h1, h2⟩ := upL_cons h
    cases n with
    | zero => simp [upL]
    | succ n => simpa using upL_mk h1 (upL_take n h2)
theorem upL_app : ∀ {cs ds : List C1} {l m : List Value}, upL r cs = some l → upL r ds = some m → upL r (cs ++ ds) = some (l ++ m)
  | [], _, l, _, h, h' => by cases h; exact h'
  | c :: cs, ds, l, m, h, h' => by
    obtain ⟨v, k, rfl, h1, h2⟩ := upL_cons h
    exact upL_mk h1 (upL_app h2 h')
theorem upL_k : ∀ (l : List Value), upL r (l.map .k) = some l
  | [] => rfl
  | _ :: l => upL_mk rfl (upL_k l)
theorem upPs_at : ∀ {cs : List PV} {l : List Value} {i : Nat} {c : PV}, upPs r cs = some l → cs[i]? = some c → ∃ v, l[i]? = some v ∧ upP r c = some v
  | [], _, _, _, _, h => by simp at h
  | c :: cs, l, i, d, hl, h => by
    obtain ⟨v, m, rfl, h1, h2⟩ := upPs_cons hl
    cases i with
    | zero => simp at h; subst h; exact ⟨v, rfl, h1⟩
    | succ i => simp at h; simpa using upPs_at h2 h
/-- The cells of a value. -/
def PV.cells : PV → List C1
  | .o c => [c]
  | .g cs => cs
end
/-! ### Operands -/
def ofV : Value → CV
  | .agg cs => .p (.g (cs.toList.map .k))
  | v => .p (.o (.k v))
theorem up_ofV (r : Ro) (v : Value) : upV r (ofV v) = some v := by
  cases v <;> first | rfl | (unfold ofV upV upP; simp only [upL_k])
noncomputable def xo (E : XE) : Operand → Option CV
  | .tmp t => E.get t
  | .const v => some (ofV v)
  | .global g => some (.p (.o (.k (.pointer (some ⟨g, 0, none⟩)))))
  | .func f => some (.p (.o (.k (.func (.func f) #[] #[]))))
theorem xo_up {r : Ro} {E : XE} {e : Env} {x : Operand} {c : CV} (hE : Le r E e) (h : xo E x = some c) : ∃ v, ev e x = some v ∧ upV r c = some v := by
  cases x with
  | tmp t => exact hE _ _ h
  | const v => cases h; exact ⟨v, rfl, up_ofV r v⟩
  | global g => cases h; exact ⟨_, rfl, rfl⟩
  | func f => cases h; exact ⟨_, rfl, rfl⟩
theorem xo_rho {r : Ro} {E : XE} {e : Env} {x : Operand} {c : CV} (hE : Le r E e) (h : xo E x = some c) : upV r c = some (rho e x) := by
  obtain ⟨v, h1, h2⟩ := xo_up hE h
  unfold rho; rw [h1]; exact h2
noncomputable def xKnown (E : XE) (l : List Operand) : Bool := List.rec true (fun x _ ih => Option.rec false (fun _ => ih) (xo E x)) l
theorem xKnown_cons (E : XE) (x : Operand) (l : List Operand) : xKnown E (x :: l) = match xo E x with | some _ => xKnown E l | none => false := by
  show (Option.rec false (fun _ => xKnown E l) (xo E x) : Bool) = _
  cases xo E x <;> rfl
theorem xKnown_up {r : Ro} {E : XE} {e : Env} (hE : Le r E e) : ∀ {l : List Operand}, xKnown E l = true → knownL e l = true
  | [], _ => rfl
  | x :: l, h => by
    rw [xKnown_cons] at h
    unfold knownL
    split at h
    · rename_i c hc
      obtain ⟨v, h1, _⟩ := xo_up hE hc
      rw [h1]; exact xKnown_up hE h
    · cases h
end Go.Xv
