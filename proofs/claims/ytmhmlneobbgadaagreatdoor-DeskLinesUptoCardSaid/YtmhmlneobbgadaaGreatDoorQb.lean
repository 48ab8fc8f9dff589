/- Operations that the world has no part in, in a run whose arguments are known. -/
import Derived.Test.YtmhmlneobbgadaaGreatDoorQa
import Derived.Test.YtmhmlneobbgadaaGreatDoorLj
namespace Go.Xv
open Go Go.RowKit Go.Vc

section
variable {r : Ro} {E : XE} {e : Env} {x : Operand}
noncomputable def asInt (E : XE) (x : Operand) : Option (IntKind × Int) := match xo E x with | some (.p (.o (.k (.int ik n)))) => some (ik, n) | _ => none
theorem asInt_rho (hE : Le r E e) {ik : IntKind} {n : Int} (h : asInt E x = some (ik, n)) : rho e x = .int ik n := by
  unfold asInt at h
  split at h
  · rename_i hx; cases h; have := xo_rho hE hx; exact (Option.some.inj this).symm
  · cases h
noncomputable def asBool (E : XE) (x : Operand) : Option Bool := match xo E x with | some (.p (.o (.k (.bool b)))) => some b | _ => none
theorem asBool_rho (hE : Le r E e) {b : Bool} (h : asBool E x = some b) : rho e x = .bool b := by
  unfold asBool at h
  split at h
  · rename_i hx; cases h; have := xo_rho hE hx; exact (Option.some.inj this).symm
  · cases h
noncomputable def asStr (E : XE) (x : Operand) : Option ByteArray := match xo E x with | some (.p (.o (.k (.string s)))) => some s | _ => none
theorem asStr_rho (hE : Le r E e) {s : ByteArray} (h : asStr E x = some s) : rho e x = .string s := by
  unfold asStr at h
  split at h
  · rename_i hx; cases h; have := xo_rho hE hx; exact (Option.some.inj this).symm
  · cases h
/-- A place: in a block of the run's own; elsewhere. -/
inductive Pc where
  | own (b off : Nat)
  | ext (a : Addr)
noncomputable def upPc (r : Ro) : Pc → Option Addr
  | .own b off => (match r b with | some x => some ⟨x.1, off, none⟩ | none => none)
  | .ext a => some a
noncomputable def Pc.add : Pc → Nat → Pc
  | .own b off, n => .own b (off + n)
  | .ext a, n => .ext (a.add n)
theorem upPc_add {p : Pc} {a : Addr} (h : upPc r p = some a) (n : Nat) : upPc r (p.add n) = some (a.add n) := by
  cases p with
  | ext a => cases h; rfl
  | own b off =>
    simp only [upPc, Pc.add] at h ⊢
    cases hb : r b with
    | none => rw [hb] at h; cases h
    | some x => rw [hb] at h; cases h; dsimp only; rw [add_at]
noncomputable def Pc.c : Pc → C1
  | .own b off => .p b off
  | .ext a => .k (.pointer (some a))
theorem up_c {p : Pc} {a : Addr} (h : upPc r p = some a) : up1 r p.c = some (.pointer (some a)) := by
  cases p with
  | ext a => cases h; rfl
  | own b off =>
    simp only [upPc, Pc.c, up1] at h ⊢
    cases hb : r b with
    | none => rw [hb] at h; cases h
    | some x => rw [hb] at h; cases h; rfl
theorem upPc_ext {r' : Ro} (hx : Ext r r') {p : Pc} {a : Addr} (h : upPc r p = some a) : upPc r' p = some a := by
  cases p with
  | ext a => exact h
  | own b off =>
    simp only [upPc] at h ⊢
    cases hb : r b with
    | none => rw [hb] at h; cases h
    | some x => rw [hb] at h; rw [hx b x hb]; exact h
noncomputable def asPc (E : XE) (x : Operand) : Option Pc := match xo E x with
  | some (.p (.o (.p b off))) => some (.own b off)
  | some (.p (.o (.k (.pointer (some a))))) => some (.ext a)
  | _ => none
theorem up_p {b off : Nat} {v : Value} (h : up1 r (.p b off) = some v) : ∃ a, v = .pointer (some a) ∧ upPc r (.own b off) = some a := by
  simp only [up1, upPc] at h ⊢
  cases hb : r b with
  | none => rw [hb] at h; cases h
  | some x => rw [hb] at h; cases h; exact ⟨_, rfl, rfl⟩
theorem up_s {b off n c : Nat} {v : Value} (h : up1 r (.s b off n c) = some v) : ∃ a, v = .slice (some a) n c ∧ upPc r (.own b off) = some a := by
  simp only [up1, upPc] at h ⊢
  cases hb : r b with
  | none => rw [hb] at h; cases h
  | some x => rw [hb] at h; cases h; exact ⟨_, rfl, rfl⟩
theorem asPc_rho (hE : Le r E e) {p : Pc} (h : asPc E x = some p) : ∃ a, rho e x = .pointer (some a) ∧ upPc r p = some a := by
  unfold asPc at h
  split at h
  · rename_i hx; cases h; exact up_p (xo_rho hE hx)
  · rename_i hx; cases h; have := xo_rho hE hx; exact ⟨_, (Option.some.inj this).symm, rfl⟩
  · cases h
noncomputable def upO (r : Ro) : Option Pc → Option (Option Addr)
  | none => some none
  | some p => match upPc r p with | some a => some (some a) | none => none
theorem up_u {b off i n : Nat} {v : Value} (h : up1 r (.u b off i n) = some v) : ∃ x, r b = some x ∧ i + n ≤ x.2.1 ∧ v = .slice (some ⟨x.1, off, none⟩) n (x.2.1 - i) := by
  simp only [up1] at h
  cases hb : r b with
  | none => rw [hb] at h; cases h
  | some x =>
    rw [hb] at h
    dsimp only at h
    split at h
    · rename_i hle; cases h; exact ⟨x, rfl, Nat.le_of_ble_eq_true hle, rfl⟩
    · cases h
theorem up_u_mk {b off i n : Nat} {x : Nat × Nat × LoopRec} (h : r b = some x) (hle : i + n ≤ x.2.1) : up1 r (.u b off i n) = some (.slice (some ⟨x.1, off, none⟩) n (x.2.1 - i)) := by
  simp only [up1, h, Nat.ble_eq_true_of_le hle]
theorem up_f {g : FuncId} {as bs : List (Nat × Nat)} {v : Value} (h : up1 r (.f g as bs) = some v) : ∃ a b, upQ r as = some a ∧ upQ r bs = some b ∧ v = .func (.func g) a.toArray b.toArray := by
  simp only [up1] at h
  split at h
  · rename_i a b h1 h2; cases h; exact ⟨a, b, h1, h2, rfl⟩
  · cases h
theorem up_y {b : Nat} {v : Value} (h : up1 r (.y b) = some v) : ∃ x, r b = some x ∧ v = .func (.yield x.1) #[] #[] := by
  simp only [up1] at h
  cases hb : r b with
  | none => rw [hb] at h; cases h
  | some x => rw [hb] at h; cases h; exact ⟨x, rfl, rfl⟩
theorem up_m {b : Nat} {v : Value} (h : up1 r (.m b) = some v) : ∃ x, r b = some x ∧ v = .map (some x.1) := by
  simp only [up1] at h
  cases hb : r b with
  | none => rw [hb] at h; cases h
  | some x => rw [hb] at h; cases h; exact ⟨x, rfl, rfl⟩
theorem up_h {b : Nat} {v : Value} (h : up1 r (.h b) = some v) : ∃ x, r b = some x ∧ v = .chan (some x.1) := by
  simp only [up1] at h
  cases hb : r b with
  | none => rw [hb] at h; cases h
  | some x => rw [hb] at h; cases h; exact ⟨x, rfl, rfl⟩
theorem up_i {b off : Nat} {t : TypeId} {v : Value} (h : up1 r (.i b off t) = some v) : ∃ x, r b = some x ∧ v = .iface t (.pointer (some ⟨x.1, off, none⟩)) := by
  simp only [up1] at h
  cases hb : r b with
  | none => rw [hb] at h; cases h
  | some x => rw [hb] at h; cases h; exact ⟨x, rfl, rfl⟩
noncomputable def asSl (E : XE) (x : Operand) : Option (Option Pc × Nat × Nat) := match xo E x with
  | some (.p (.o (.s b off n c))) => some (some (.own b off), n, c)
  | some (.p (.o (.k (.slice (some a) n c)))) => some (some (.ext a), n, c)
  | some (.p (.o (.k (.slice none n c)))) => some (none, n, c)
  | _ => none
theorem asSl_rho (hE : Le r E e) {p : Option Pc} {n c : Nat} (h : asSl E x = some (p, n, c)) : ∃ a, rho e x = .slice a n c ∧ upO r p = some a := by
  unfold asSl at h
  split at h
  · rename_i hx; cases h; obtain ⟨a, h1, h2⟩ := up_s (xo_rho hE hx); exact ⟨_, h1, by simp only [upO, h2]⟩
  · rename_i hx; cases h; have := xo_rho hE hx; exact ⟨_, (Option.some.inj this).symm, rfl⟩
  · rename_i hx; cases h; have := xo_rho hE hx; exact ⟨_, (Option.some.inj this).symm, rfl⟩
  · cases h
/-- A slice, whatever it may still hold. -/
noncomputable def asSn (E : XE) (x : Operand) : Option (Option Pc × Nat) := match xo E x with
  | some (.p (.o (.u b off _ n))) => some (some (.own b off), n)
  | _ => (match asSl E x with | some (p, n, _) => some (p, n) | none => none)
theorem asSn_rho (hE : Le r E e) {p : Option Pc} {n : Nat} (h : asSn E x = some (p, n)) : ∃ a c, rho e x = .slice a n c ∧ upO r p = some a := by
  unfold asSn at h
  split at h
  · rename_i hx
    cases h
    obtain ⟨y, h1, h2, h3⟩ := up_u (xo_rho hE hx)
    exact ⟨_, _, h3, by simp only [upO, upPc, h1]⟩
  · split at h
    · rename_i hs; cases h; obtain ⟨a, h1, h2⟩ := asSl_rho hE hs; exact ⟨a, _, h1, h2⟩
    · cases h
noncomputable def mkSl : Option Pc → Nat → Nat → C1
  | none, n, c => .k (.slice none n c)
  | some (.own b off), n, c => .s b off n c
  | some (.ext a), n, c => .k (.slice (some a) n c)
theorem up_mkSl {p : Option Pc} {a : Option Addr} (h : upO r p = some a) (n c : Nat) : up1 r (mkSl p n c) = some (.slice a n c) := by
  cases p with
  | none => cases h; rfl
  | some p =>
    cases p with
    | ext a => cases h; rfl
    | own b off =>
      simp only [upO, upPc, mkSl, up1] at h ⊢
      cases hb : r b with
      | none => rw [hb] at h; cases h
      | some x => rw [hb] at h; cases h; rfl
noncomputable def ck (v : Value) : CV := .p (.o (.k v))
theorem up_ck (r : Ro) (v : Value) : upV r (ck v) = some v := rfl
end

/-! ### A value's look -/
noncomputable def xAs1 (P : Program) (t : TypeId) (c : C1) : Bool :=
  match kk P t, c with
  | .int ik, .k (.int ik' _) => sameK ik' ik
  | .bool, .k (.bool _) => true
  | .str, .k (.string _) => true
  | .ptr, .k (.pointer _) => true
  | .ptr, .p _ _ => true
  | .slice, .k (.slice _ _ _) => true
  | .slice, .s _ _ _ _ => true
  | .slice, .u _ _ _ _ => true
  | .tup _, _ => true
  | .other, _ => true
  | _, _ => false
theorem sameK_eq {a b : IntKind} (h : sameK a b = true) : a = b := by cases a <;> cases b <;> first | rfl | cases h
theorem xAs1_ok {P : Program} {t : TypeId} {c : C1} {r : Ro} {v : Value} {k : Value → Prop} (h : xAs1 P t c = true) (hc : up1 r c = some v) (hk : k v) : As1 P t v k := by
  unfold xAs1 at h
  unfold As1
  split at h
  · rename_i ik' n hkk; cases hc; rw [hkk]; have := sameK_eq h; subst this; exact ⟨n, rfl, hk⟩
  · rename_i b hkk; cases hc; rw [hkk]; exact ⟨b, rfl, hk⟩
  · rename_i s hkk; cases hc; rw [hkk]; exact ⟨s, rfl, hk⟩
  · rename_i a hkk; cases hc; rw [hkk]; exact ⟨a, rfl, hk⟩
  · rename_i hkk; rw [hkk]; obtain ⟨a, rfl, _⟩ := up_p hc; exact ⟨_, rfl, hk⟩
  · rename_i a n c hkk; cases hc; rw [hkk]; exact ⟨a, n, c, rfl, hk⟩
  · rename_i hkk; rw [hkk]; obtain ⟨a, rfl, _⟩ := up_s hc; exact ⟨_, _, _, rfl, hk⟩
  · rename_i hkk; rw [hkk]; obtain ⟨a, _, _, rfl⟩ := up_u hc; exact ⟨_, _, _, rfl, hk⟩
  · rename_i hkk; rw [hkk]; exact hk
  · rename_i hkk; rw [hkk]; exact hk
  · cases h
noncomputable def xAsP (P : Program) (t : TypeId) : PV → Bool
  | .o c => xAs1 P t c
  | .g _ => match kk P t with | .other => true | _ => false
theorem xAsP_ok {P : Program} {t : TypeId} {c : PV} {r : Ro} {v : Value} {k : Value → Prop} (h : xAsP P t c = true) (hc : upP r c = some v) (hk : k v) : As1 P t v k := by
  cases c with
  | o c => exact xAs1_ok h hc hk
  | g cs =>
    simp only [xAsP] at h
    unfold As1
    split at h
    · rename_i hkk; rw [hkk]; exact hk
    · cases h
noncomputable def xAs (P : Program) (t : TypeId) : CV → Bool
  | .p c => (match kk P t with | .tup _ => false | _ => xAsP P t c)
  | .t xs => (match kk P t, xs with
    | .tup [], [] => true
    | .tup [t0, t1], [a, b] => xAsP P t0 a && xAsP P t1 b
    | .tup [t0, t1, t2], [a, b, c] => xAsP P t0 a && (xAsP P t1 b && xAsP P t2 c)
    | .tup [t0, t1, t2, t3], [a, b, c, d] => xAsP P t0 a && (xAsP P t1 b && (xAsP P t2 c && xAsP P t3 d))
    | _, _ => false)
theorem xAs_ok {P : Program} {t : TypeId} {c : CV} {r : Ro} {v : Value} {k : Value → Prop} (h : xAs P t c = true) (hc : upV r c = some v) (hk : k v) : As P t v k := by
  unfold xAs at h
  unfold As
  split at h
  · rename_i c
    split at h
    · cases h
    · rename_i hn
      have := xAsP_ok (k := k) h hc hk
      split
      · rename_i hkk; exact (hn _ hkk).elim
      · rename_i hkk; exact (hn _ hkk).elim
      · rename_i hkk; exact (hn _ hkk).elim
      · exact this
  · rename_i xs
    simp only [upV] at hc
    split at hc
    · rename_i l hl
      cases hc
      split at h
      · rename_i hkk
        rw [hkk]
        dsimp only
        unfold As1
        rw [hkk]
        exact hk
      · rename_i t0 t1 a b hkk
        obtain ⟨h1, h2⟩ := Bool.and_eq_true_iff.1 h
        obtain ⟨v0, l0, rfl, u0, g0⟩ := upPs_cons hl
        obtain ⟨v1, l1, rfl, u1, g1⟩ := upPs_cons g0
        cases g1
        rw [hkk]
        exact ⟨v0, v1, rfl, xAsP_ok h1 u0 (xAsP_ok h2 u1 hk)⟩
      · rename_i t0 t1 t2 a b c hkk
        obtain ⟨h1, h2⟩ := Bool.and_eq_true_iff.1 h
        obtain ⟨h2, h3⟩ := Bool.and_eq_true_iff.1 h2
        obtain ⟨v0, l0, rfl, u0, g0⟩ := upPs_cons hl
        obtain ⟨v1, l1, rfl, u1, g1⟩ := upPs_cons g0
        obtain ⟨v2, l2, rfl, u2, g2⟩ := upPs_cons g1
        cases g2
        rw [hkk]
        exact ⟨v0, v1, v2, rfl, xAsP_ok h1 u0 (xAsP_ok h2 u1 (xAsP_ok h3 u2 hk))⟩
      · rename_i t0 t1 t2 t3 a b c d hkk
        obtain ⟨h1, h2⟩ := Bool.and_eq_true_iff.1 h
        obtain ⟨h2, h3⟩ := Bool.and_eq_true_iff.1 h2
        obtain ⟨h3, h4⟩ := Bool.and_eq_true_iff.1 h3
        obtain ⟨v0, l0, rfl, u0, g0⟩ := upPs_cons hl
        obtain ⟨v1, l1, rfl, u1, g1⟩ := upPs_cons g0
        obtain ⟨v2, l2, rfl, u2, g2⟩ := upPs_cons g1
        obtain ⟨v3, l3, rfl, u3, g3⟩ := upPs_cons g2
        cases g3
        rw [hkk]
        exact ⟨v0, v1, v2, v3, rfl, xAsP_ok h1 u0 (xAsP_ok h2 u1 (xAsP_ok h3 u2 (xAsP_ok h4 u3 hk)))⟩
      · cases h
    · cases hc
end Go.Xv
