/- Operations that the world has no part in, in a run whose arguments are known: the step. -/
import Derived.Test.YtmhmlneobbgadaaGreatDoorQc
namespace Go.Xv
open Go Go.RowKit Go.Vc

noncomputable def natO (E : XE) (x : Operand) : Option Nat := match asInt E x with | some (_, .ofNat n) => some n | _ => none
theorem natO_rho {r : Ro} {E : XE} {e : Env} {x : Operand} (hE : Le r E e) {n : Nat} (h : natO E x = some n) : ∃ ik, rho e x = .int ik (n : Int) := by
  unfold natO at h
  split at h
  · rename_i ik m hx; cases h; exact ⟨ik, asInt_rho hE hx⟩
  · cases h
/-- Values that are surely the same. -/
noncomputable def eqV : Value → Value → Bool
  | .int a m, .int b n => sameK a b && decide (m = n)
  | .bool a, .bool b => a == b
  | .string a, .string b => decide (a.data.toList = b.data.toList)
  | .pointer none, .pointer none => true
  | .slice none a b, .slice none c d => Nat.beq a c && Nat.beq b d
  | .nilFunc, .nilFunc => true
  | _, _ => false
noncomputable def eq1 : C1 → C1 → Bool
  | .k v, .k w => eqV v w
  | .p a b, .p c d => Nat.beq a c && Nat.beq b d
  | .m a, .m b => Nat.beq a b
  | .h a, .h b => Nat.beq a b
  | .i a b t, .i c d u => (Nat.beq a c && Nat.beq b d) && Nat.beq t u
  | .s a b c d, .s e f g h => (Nat.beq a e && Nat.beq b f) && (Nat.beq c g && Nat.beq d h)
  | .u a b c d, .u e f g h => (Nat.beq a e && Nat.beq b f) && (Nat.beq c g && Nat.beq d h)
  | _, _ => false
noncomputable def eqL : List C1 → List C1 → Bool
  | [], [] => true
  | a :: l, b :: m => eq1 a b && eqL l m
  | _, _ => false
noncomputable def eqC : CV → CV → Bool
  | .p (.o a), .p (.o b) => eq1 a b
  | .p (.g a), .p (.g b) => eqL a b
  | _, _ => false
theorem eqV_ok {v w : Value} (h : eqV v w = true) : v = w := by
  unfold eqV at h
  split at h
  · obtain ⟨h1, h2⟩ := Bool.and_eq_true_iff.1 h; rw [sameK_eq h1, of_decide_eq_true h2]
  · rw [beq_iff_eq.1 h]
  · rename_i a b
    have := Array.toList_inj.1 (of_decide_eq_true h)
    rw [ByteArray.ext this]
  · rfl
  · obtain ⟨h1, h2⟩ := Bool.and_eq_true_iff.1 h; rw [Nat.eq_of_beq_eq_true h1, Nat.eq_of_beq_eq_true h2]
  · rfl
  · cases h
theorem eq1_ok {a b : C1} (h : eq1 a b = true) : a = b := by
  unfold eq1 at h
  split at h
  · rw [eqV_ok h]
  · obtain ⟨h1, h2⟩ := Bool.and_eq_true_iff.1 h; rw [Nat.eq_of_beq_eq_true h1, Nat.eq_of_beq_eq_true h2]
  · rw [Nat.eq_of_beq_eq_true h]
  · rw [Nat.eq_of_beq_eq_true h]
  · obtain ⟨h1, h2⟩ := Bool.and_eq_true_iff.1 h
    obtain ⟨h3, h4⟩ := Bool.and_eq_true_iff.1 h1
    rw [Nat.eq_of_beq_eq_true h3, Nat.eq_of_beq_eq_true h4, Nat.eq_of_beq_eq_true h2]
  · obtain ⟨h1, h2⟩ := Bool.and_eq_true_iff.1 h
    obtain ⟨h3, h4⟩ := Bool.and_eq_true_iff.1 h1
    obtain ⟨h5, h6⟩ := Bool.and_eq_true_iff.1 h2
    rw [Nat.eq_of_beq_eq_true h3, Nat.eq_of_beq_eq_true h4, Nat.eq_of_beq_eq_true h5, Nat.eq_of_beq_eq_true h6]
  · obtain ⟨h1, h2⟩ := Bool.and_eq_true_iff.1 h
    obtain ⟨h3, h4⟩ := Bool.and_eq_true_iff.1 h1
    obtain ⟨h5, h6⟩ := Bool.and_eq_true_iff.1 h2
    rw [Nat.eq_of_beq_eq_true h3, Nat.eq_of_beq_eq_true h4, Nat.eq_of_beq_eq_true h5, Nat.eq_of_beq_eq_true h6]
  · cases h
theorem eqL_ok : ∀ {l m : List C1}, eqL l m = true → l = m
  | [], [], _ => rfl
  | a :: l, b :: m, h => by
    unfold eqL at h
    obtain ⟨h1, h2⟩ := Bool.and_eq_true_iff.1 h
    rw [eq1_ok h1, eqL_ok h2]
  | [], _ :: _, h => by cases h
  | _ :: _, [], h => by cases h
theorem eqC_ok {a b : CV} (h : eqC a b = true) : a = b := by
  unfold eqC at h
  split at h
  · rw [eq1_ok h]
  · rw [eqL_ok h]
  · cases h
/-- Cells of kinds. -/
noncomputable def typB : List Lf → List C1 → Bool
  | [], [] => true
  | .int k :: s, .k (.int k' n) :: cs => (sameK k k' && (Lit.int k n).wf) && typB s cs
  | .bool :: s, .k (.bool _) :: cs => typB s cs
  | .str :: s, .k (.string b) :: cs => Nat.ble (lenB b) maxLen && typB s cs
  | _, _ => false
theorem typB_ok {r : Ro} : ∀ {s : List Lf} {cs : List C1} {l : List Value}, typB s cs = true → upL r cs = some l → Typed s l
  | [], [], l, _, hl => by cases hl; trivial
  | [], _ :: _, l, h, _ => by simp [typB] at h
  | _ :: _, [], l, h, _ => by simp [typB] at h
  | f :: s, c :: cs, l, h, hl => by
    obtain ⟨v, m, rfl, h1, h2⟩ := upL_cons hl
    unfold typB at h
    split at h
    · rename_i heq; cases heq
    · rename_i k s' k' n cs' e1 e2
      cases e1; cases e2; cases h1
      obtain ⟨h3, h4⟩ := Bool.and_eq_true_iff.1 h
      obtain ⟨h5, h6⟩ := Bool.and_eq_true_iff.1 h3
      have := sameK_eq h5; subst this
      exact ⟨⟨n, rfl, h6⟩, typB_ok h4 h2⟩
    · rename_i s' b cs' e1 e2
      cases e1; cases e2; cases h1
      exact ⟨⟨b, rfl⟩, typB_ok h h2⟩
    · rename_i s' b cs' e1 e2
      cases e1; cases e2; cases h1
      obtain ⟨h3, h4⟩ := Bool.and_eq_true_iff.1 h
      exact ⟨⟨b, rfl, Nat.le_of_ble_eq_true h3⟩, typB_ok h4 h2⟩
    · cases h
theorem sameK_refl (a : IntKind) : sameK a a = true := by cases a <;> rfl
theorem eqL_self {r : Ro} : ∀ {s : List Lf} {cs ds : List C1} {l : List Value}, typB s cs = true → typB s ds = true → upL r cs = some l → upL r ds = some l → eqL cs ds = true
  | [], [], [], l, _, _, _, _ => rfl
  | [], _ :: _, _, l, h, _, _, _ => by simp [typB] at h
  | [], [], _ :: _, l, _, h, _, _ => by simp [typB] at h
  | _ :: _, [], _, l, h, _, _, _ => by simp [typB] at h
  | _ :: _, _ :: _, [], l, _, h, _, _ => by simp [typB] at h
  | f :: s, c :: cs, d :: ds, l, h, h', hl, hl' => by
    obtain ⟨v, m, rfl, h1, h2⟩ := upL_cons hl
    obtain ⟨v', m', e, h1', h2'⟩ := upL_cons hl'
    cases e
    unfold eqL
    rw [Bool.and_eq_true]
    unfold typB at h h'
    split at h
    · rename_i heq; cases heq
    · rename_i k s' k' n cs' e1 e2
      cases e1; cases e2; cases h1
      split at h'
      · rename_i heq; cases heq
      · rename_i e1 e2
        cases e1; cases e2; cases h1'
        exact ⟨by simp [eq1, eqV, sameK_refl], eqL_self (Bool.and_eq_true_iff.1 h).2 (Bool.and_eq_true_iff.1 h').2 h2 h2'⟩
      · rename_i e1 _; cases e1
      · rename_i e1 _; cases e1
      · cases h'
    · rename_i s' b cs' e1 e2
      cases e1; cases e2; cases h1
      split at h'
      · rename_i heq; cases heq
      · rename_i e1 _; cases e1
      · rename_i e1 e2
        cases e1; cases e2; cases h1'
        exact ⟨by simp [eq1, eqV], eqL_self h h' h2 h2'⟩
      · rename_i e1 _; cases e1
      · cases h'
    · rename_i s' b cs' e1 e2
      cases e1; cases e2; cases h1
      split at h'
      · rename_i heq; cases heq
      · rename_i e1 _; cases e1
      · rename_i e1 _; cases e1
      · rename_i e1 e2
        cases e1; cases e2; cases h1'
        exact ⟨by simp [eq1, eqV], eqL_self (Bool.and_eq_true_iff.1 h).2 (Bool.and_eq_true_iff.1 h').2 h2 h2'⟩
      · cases h'
    · cases h
/-- A type whose values are compared cell for cell. -/
noncomputable def eqTy (P : Program) (t : TypeId) : Option (List Lf) :=
  match shp P 20 t, P.keyTypeAt 20 t, P.tiled 20 t, (match P.underlying t with | some (.array _ _) | some (.struct _) => true | _ => false), P.eqGuardType P.depth t with
  | some s, true, true, true, false => some s
  | _, _, _, _, _ => none
theorem eqTy_ok {P : Program} {t : TypeId} {s : List Lf} (h : eqTy P t = some s) : EqTy P t s := by
  unfold eqTy at h
  split at h
  · rename_i h1 h2 h3 h4 h5; cases h; exact ⟨h1, h2, h3, h4, h5⟩
  · cases h
/-- No value of a kind of its own. -/
noncomputable def nilFit : TypeDesc → Value → Bool
  | .pointer _, .pointer none => true
  | .func _ _ _, .nilFunc => true
  | .map _ _, .map none => true
  | .chan _ _, .chan none => true
  | .slice _, .slice none _ _ => true
  | .interface _, .nilIface => true
  | _, _ => false
noncomputable def isNil1 : TypeDesc → C1 → Option Bool
  | .pointer _, .k (.pointer a) => some a.isNone
  | .pointer _, .p _ _ => some false
  | .func _ _ _, .k .nilFunc => some true
  | .func _ _ _, .k (.func _ _ _) => some false
  | .func _ _ _, .f _ _ _ => some false
  | .map _ _, .k (.map a) => some a.isNone
  | .map _ _, .m _ => some false
  | .chan _ _, .k (.chan a) => some a.isNone
  | .chan _ _, .h _ => some false
  | .slice _, .k (.slice a _ _) => some a.isNone
  | .slice _, .s _ _ _ _ => some false
  | .slice _, .u _ _ _ _ => some false
  | .interface _, .k .nilIface => some true
  | .interface _, .k (.iface _ _) => some false
  | .interface _, .i _ _ _ => some false
  | _, _ => none
/-- What a comparison with no value gives, told of values. -/
inductive IsNil : TypeDesc → Value → Bool → Prop
  | ptr {el : TypeId} (a : Option Addr) : IsNil (.pointer el) (.pointer a) a.isNone
  | nofn {ps rs : Array TypeId} {vd : Bool} : IsNil (.func ps rs vd) .nilFunc true
  | fn {ps rs : Array TypeId} {vd : Bool} (f : Fn) (x y : Array Value) : IsNil (.func ps rs vd) (.func f x y) false
  | mp {k el : TypeId} (a : Option Nat) : IsNil (.map k el) (.map a) a.isNone
  | ch {d : ChanDir} {el : TypeId} (a : Option Nat) : IsNil (.chan d el) (.chan a) a.isNone
  | sl {el : TypeId} (a : Option Addr) (n c : Nat) : IsNil (.slice el) (.slice a n c) a.isNone
  | noif {ms : Array (String × TypeId)} : IsNil (.interface ms) .nilIface true
  | ifc {ms : Array (String × TypeId)} (t : TypeId) (v : Value) : IsNil (.interface ms) (.iface t v) false
theorem isNil1_up {d : TypeDesc} {c : C1} {b : Bool} {r : Ro} {v : Value} (h : isNil1 d c = some b) (hc : up1 r c = some v) : IsNil d v b := by
  unfold isNil1 at h
  split at h <;> try (cases h; done)
  · cases h; cases hc; exact .ptr _
  · cases h; obtain ⟨a, rfl, _⟩ := up_p hc; exact .ptr (some a)
  · cases h; cases hc; exact .nofn
  · cases h; cases hc; exact .fn _ _ _
  · cases h; obtain ⟨a, b, _, _, rfl⟩ := up_f hc; exact .fn _ _ _
  · cases h; cases hc; exact .mp _
  · cases h; obtain ⟨a, _, rfl⟩ := up_m hc; exact .mp (some _)
  · cases h; cases hc; exact .ch _
  · cases h; obtain ⟨a, _, rfl⟩ := up_h hc; exact .ch (some _)
  · cases h; cases hc; exact .sl _ _ _
  · cases h; obtain ⟨a, rfl, _⟩ := up_s hc; exact .sl (some a) _ _
  · cases h; obtain ⟨a, _, _, rfl⟩ := up_u hc; exact .sl (some _) _ _
  · cases h; cases hc; exact .noif
  · cases h; cases hc; exact .ifc _ _
  · cases h; obtain ⟨a, _, rfl⟩ := up_i hc; exact .ifc _ _
theorem nil_run {P : Program} {t : TypeId} {d : TypeDesc} (ht : P.underlying t = some d) {u v : Value} {b : Bool} (hf : nilFit d u = true) (hv : IsNil d v b) (w : World) : (Op.equalIn 10000 t v u).run P w = .ok b w := by
  unfold Op.equalIn
  unfold nilFit at hf
  split at hf
  · cases hv with | ptr a => cases a <;> simp [run_underlying' ht]
  · cases hv <;> simp [run_underlying' ht]
  · cases hv with | mp a => cases a <;> simp [run_underlying' ht]
  · cases hv with | ch a => cases a <;> simp [run_underlying' ht]
  · cases hv with | sl a n c => cases a <;> simp [run_underlying' ht]
  · cases hv <;> simp [run_underlying' ht]
  · cases hf
theorem nil_guard {P : Program} {op : BinOp} {t : TypeId} {d : TypeDesc} {u v : Value} {b : Bool} (hf : nilFit d u = true) (hv : IsNil d v b) (x : Operand) (w : World) : (eqGuard op t x (.const u) v u).run P w = .ok () w := by
  unfold nilFit at hf
  split at hf <;> first | (cases hf; done) | (cases hv <;> cases op <;> simp [eqGuard])
theorem nil_eql {P : Program} {t : TypeId} {d : TypeDesc} (ht : P.underlying t = some d) {x : Operand} {u v : Value} {b : Bool} (hf : nilFit d u = true) (hv : IsNil d v b) {k : Value → Prop} (hk : k (.bool b)) : RunP P (binRun .eql t x (.const u) v u) k :=
  ⟨_, fun w => by
    have h1 := nil_run ht hf hv w
    have h2 := nil_guard (P := P) (op := .eql) (t := t) hf hv x w
    have h3 : (binOp .eql t v u).run P w = ((Op.equalIn 10000 t v u).run P w).andThen fun b w' => .ok (.bool b) w' := by
      unfold nilFit at hf
      split at hf <;> first | (cases hf; done) | (cases hv <;> simp [binOp, Op.equal, Op.maxDepth])
    rw [h1] at h3
    simp only [binRun, Sem.run_bind, h2, Result.andThen_ok, h3], hk⟩
theorem nil_neq {P : Program} {t : TypeId} {d : TypeDesc} (ht : P.underlying t = some d) {x : Operand} {u v : Value} {b : Bool} (hf : nilFit d u = true) (hv : IsNil d v b) {k : Value → Prop} (hk : k (.bool (!b))) : RunP P (binRun .neq t x (.const u) v u) k :=
  ⟨_, fun w => by
    have h1 := nil_run ht hf hv w
    have h2 := nil_guard (P := P) (op := .neq) (t := t) hf hv x w
    have h3 : (binOp .neq t v u).run P w = ((Op.equalIn 10000 t v u).run P w).andThen fun b w' => .ok (.bool (!b)) w' := by
      unfold nilFit at hf
      split at hf <;> first | (cases hf; done) | (cases hv <;> simp [binOp, Op.equal, Op.maxDepth])
    rw [h1] at h3
    simp only [binRun, Sem.run_bind, h2, Result.andThen_ok, h3], hk⟩
noncomputable def aggB : TypeDesc → Bool
  | .struct _ => true
  | .array _ _ => true
  | _ => false
/-- Comparing what is neither a number nor a text. -/
noncomputable def xCmp (P : Program) (E : XE) (op : BinOp) (t : TypeId) (x y : Operand) : Option Bool :=
  match P.underlying t with
  | none => none
  | some .bool => (match asBool E x, asBool E y, op with
    | some a, some b, .eql => some (a == b)
    | some a, some b, .neq => some (!(a == b))
    | _, _, _ => none)
  | some d => (match aggB d with
    | true => (match xo E x, xo E y, eqTy P t with
      | some (.p (.g cs)), some (.p (.g ds)), some s => (match typB s cs && typB s ds, op with
        | true, .eql => some (eqL cs ds)
        | true, .neq => some (!(eqL cs ds))
        | _, _ => none)
      | _, _, _ => none)
    | false => (match y, xo E x with
      | .const u, some (.p (.o c)) => (match nilFit d u, isNil1 d c, op with
        | true, some b, .eql => some b
        | true, some b, .neq => some (!b)
        | _, _, _ => none)
      | _, _ => none))
theorem xCmp_ok {P : Program} {r : Ro} {E : XE} {e : Env} {op : BinOp} {t : TypeId} {x y : Operand} {b : Bool} {k : Value → Prop} (hE : Le r E e) (h : xCmp P E op t x y = some b) (hk : k (.bool b)) :
    RunP P (binRun op t x y (rho e x) (rho e y)) fun v => AsB v fun r => k (.bool r) := by
  have hb : (fun v => AsB v fun r => k (.bool r)) (.bool b) := ⟨b, rfl, hk⟩
  unfold xCmp at h
  split at h
  · cases h
  · rename_i ht
    split at h
    · rename_i a c hx hy
      cases h
      rw [asBool_rho hE hx, asBool_rho hE hy]
      exact bool_eql ht hb
    · rename_i a c hx hy
      cases h
      rw [asBool_rho hE hx, asBool_rho hE hy]
      exact bool_neq ht hb
    · cases h
  · rename_i d _ ht
    split at h
    · split at h
      · rename_i cs ds s hx hy hs
        have hx := xo_rho hE hx
        have hy := xo_rho hE hy
        simp only [upV, upP] at hx hy
        split at hx
        · rename_i l hl
          split at hy
          · rename_i m hm
            rw [← Option.some.inj hx, ← Option.some.inj hy]
            have key : ∀ (h1 : typB s cs = true) (h2 : typB s ds = true) (q : Bool), (q = true ↔ l = m) → q = eqL cs ds := fun h1 h2 q hq => by
              cases he : eqL cs ds with
              | true => rw [hq]; have := eqL_ok he; subst this; rw [hl] at hm; exact Option.some.inj hm
              | false =>
                cases q with
                | false => rfl
                | true =>
                  have := hq.1 rfl
                  subst this
                  rw [eqL_self h1 h2 hl hm] at he; cases he
            split at h
            · rename_i hb'
              cases h
              obtain ⟨h1, h2⟩ := Bool.and_eq_true_iff.1 hb'
              exact (eqTy_ok hs).eql (typB_ok h1 hl) (typB_ok h2 hm) fun q hq => by rw [key h1 h2 q hq]; exact hb
            · rename_i hb'
              cases h
              obtain ⟨h1, h2⟩ := Bool.and_eq_true_iff.1 hb'
              exact (eqTy_ok hs).neq (typB_ok h1 hl) (typB_ok h2 hm) fun q hq => by rw [key h1 h2 q hq]; exact hb
            · cases h
          · cases hy
        · cases hx
      · cases h
    · split at h
      · rename_i u c hx
        have hx := xo_rho hE hx
        have hy : rho e (.const u) = u := rfl
        rw [hy]
        split at h
        · rename_i b' hf hn
          cases h
          exact nil_eql ht hf (isNil1_up hn hx) hb
        · rename_i b' hf hn
          cases h
          exact nil_neq ht hf (isNil1_up hn hx) hb
        · cases h
      · cases h
noncomputable def xParts (E : XE) : List (Nat × Operand) → Option (List (Nat × PV))
  | [] => some []
  | (i, x) :: l => match xo E x, xParts E l with | some (.p c), some m => some ((i, c) :: m) | _, _ => none
theorem xParts_ok {r : Ro} {E : XE} {e : Env} (hE : Le r E e) : ∀ {l : List (Nat × Operand)} {m : List (Nat × PV)}, xParts E l = some m → UpKs r m (l.map fun p => (p.1, rho e p.2))
  | [], _, h => by cases h; exact .nil
  | (i, x) :: l, m, h => by
    unfold xParts at h
    split at h
    · rename_i c m' h1 h2
      cases h
      exact .cons (xo_rho hE h1) (xParts_ok hE h2)
    · cases h
noncomputable def xBuild (P : Program) (E : XE) (t : TypeId) (parts : Array (Nat × Operand)) : Option CV :=
  match zeroOf P t, xParts E parts.toList, fieldsOk P t with
  | some z, some l, true => (match xPlaces P t l with
    | some q => (match xSplice z.cells.toList.length (z.cells.toList.map .k) q with | some cs => some (.p (.g cs)) | none => none)
    | none => none)
  | _, _, _ => none
/-- The bounds of a slice expression. -/
noncomputable def xBd (E : XE) (len cap : Nat) (lo hi : Option Operand) : Option (Nat × Nat) :=
  match (match lo with | none => some 0 | some x => natO E x), (match hi with | none => some len | some x => natO E x) with
  | some l, some h => (match Nat.ble l h, Nat.ble h cap with | true, true => some (l, h) | _, _ => none)
  | _, _ => none
theorem xBd_le {E : XE} {len cap l h : Nat} {lo hi : Option Operand} (hx : xBd E len cap lo hi = some (l, h)) : l ≤ h ∧ h ≤ cap := by
  unfold xBd at hx
  split at hx
  · split at hx
    · rename_i b1 b2; cases hx; exact ⟨Nat.le_of_ble_eq_true b1, Nat.le_of_ble_eq_true b2⟩
    · cases hx
  · cases hx
theorem xBd_ok {r : Ro} {E : XE} {e : Env} (hE : Le r E e) {len cap cap' l h : Nat} {lo hi : Option Operand} (hx : xBd E len cap lo hi = some (l, h)) (hcap : cap ≤ cap') {k : Nat → Nat → Prop} (hk : k l h) :
    intOp (lo.map (rho e)) fun lo => intOp (hi.map (rho e)) fun hi => SlB len cap' lo hi k := by
  unfold xBd at hx
  split at hx
  · rename_i l' h' h1 h2
    split at hx
    · rename_i b1 b2
      cases hx
      have b1 := Nat.le_of_ble_eq_true b1
      have b2 := Nat.le_trans (Nat.le_of_ble_eq_true b2) hcap
      have hhi : ∀ lo' : Option Int, isLo lo' l → intOp (hi.map (rho e)) fun hi => SlB len cap' lo' hi k := fun lo' hl => by
        cases hi with
        | none => cases h2; exact ⟨l, _, hl, rfl, b1, b2, hk⟩
        | some y =>
          obtain ⟨ik, hy⟩ := natO_rho hE h2
          simp only [Option.map_some, hy]
          exact ⟨l, h, hl, rfl, b1, b2, hk⟩
      cases lo with
      | none => cases h1; exact hhi none rfl
      | some y =>
        obtain ⟨ik, hy⟩ := natO_rho hE h1
        simp only [Option.map_some, hy]
        exact hhi _ rfl
    · cases hx
  · cases hx
noncomputable def xQs (E : XE) : List Operand → Option (List (Nat × Nat))
  | [] => some []
  | x :: l => match xo E x, xQs E l with | some (.p (.o (.p b off))), some m => some ((b, off) :: m) | _, _ => none
theorem xQs_up {r : Ro} {E : XE} {e : Env} (hE : Le r E e) : ∀ {l : List Operand} {m : List (Nat × Nat)}, xQs E l = some m → upQ r m = some (l.map (rho e))
  | [], _, h => by cases h; rfl
  | x :: l, m, h => by
    unfold xQs at h
    split at h
    · rename_i b off m' h1 h2
      cases h
      have hu := xo_rho hE h1
      simp only [upV, upP, up1] at hu
      unfold upQ
      split at hu
      · rename_i y hy; rw [hy, xQs_up hE h2, List.map_cons, ← Option.some.inj hu]
      · cases hu
    · cases h
noncomputable def szOf (P : Program) (t : TypeId) : Option Nat := match P.info? t with | some i => some i.size | none => none
theorem szOf_ok {P : Program} {t : TypeId} {n : Nat} {k : Nat → Prop} (h : szOf P t = some n) (hk : k n) : Sz P t k := by
  unfold szOf at h
  unfold Sz
  split at h
  · rename_i i hi; rw [hi]; cases h; exact hk
  · cases h
theorem intOp_map {o : Option Value} {k k' : Option Int → Prop} (h : intOp o k) (hk : ∀ n, k n → k' n) : intOp o k' := by
  cases o with
  | none => exact hk _ h
  | some v => cases v <;> first | exact hk _ h | exact h.elim
theorem intOp_sz {P : Program} {el : TypeId} {sz : Nat} {lo hi : Option Value} {K : Option Int → Option Int → Nat → Prop} (hs : szOf P el = some sz) (h : intOp lo fun l => intOp hi fun h => K l h sz) : intOp lo fun l => intOp hi fun h => Sz P el fun sz => K l h sz :=
  intOp_map h fun _ h => intOp_map h fun _ h => szOf_ok hs h
noncomputable def xPure (P : Program) (E : XE) (op : Op) : Option CV :=
  match op with
  | .move x => xo E x
  | .assign x => xo E x
  | .pick c a b => (match asBool E c with | some true => xo E a | some false => xo E b | none => none)
  | .makeInterface t x => (match P.underlying t with
    | some (.interface _) => none
    | some _ => (match xo E x with
      | some (.p (.o (.k v))) => some (ck (.iface t v))
      | some (.p (.o (.p b off))) => some (.p (.o (.i b off t)))
      | _ => none)
    | none => none)
  | .nilCheck x => (match asPc E x with | some p => some (.p (.o p.c)) | none => (match xo E x with | some (.p (.o (.k (.func (.func f) a b)))) => some (.p (.o (.k (.func (.func f) a b)))) | _ => none))
  | .fieldAddr t x i => (match asPc E x, fldOf P t i with
    | some p, some (t', o) => (match Nat.beq (P.cellsOf t') 0 with | true => none | false => some (.p (.o (p.add o).c)))
    | _, _ => none)
  | .field t x i => (match xo E x, fldOf P t i with | some (.p (.g cs)), some (t', o) => xPart P t' cs o | _, _ => none)
  | .indexAddr t x i => (match natO E i with
    | some n => (match P.underlying t with
      | some (.slice el) => (match asSn E x, szOf P el with | some (some p, len), some sz => (match Nat.blt n len with | true => some (.p (.o (p.add (n * sz)).c)) | false => none) | _, _ => none)
      | some (.array len el) => (match asPc E x, szOf P el with | some p, some sz => (match Nat.blt n len with | true => some (.p (.o (p.add (n * sz)).c)) | false => none) | _, _ => none)
      | _ => none)
    | none => none)
  | .index t x i => (match natO E i with
    | some n => (match P.underlying t with
      | some .string => (match asStr E x with | some s => (match nthL s.data.toList n with | some c => some (ck (.int .u8 (c.toNat : Int))) | none => none) | none => none)
      | some (.array len el) => (match xo E x, szOf P el with | some (.p (.g cs)), some sz => (match Nat.blt n len with | true => xPart P el cs (n * sz) | false => none) | _, _ => none)
      | _ => none)
    | none => none)
  | .binOp op t x y _ => (match kk P t with
    | .int _ => (match asInt E x, asInt E y with | some (ik, a), some (ik', b) => (match xInt op ik a ik' b with | some v => some (ck v) | none => none) | _, _ => none)
    | .str => (match asStr E x, asStr E y with | some a, some b => (match xStr op a b with | some v => some (ck v) | none => none) | _, _ => none)
    | _ => (match xCmp P E op t x y with | some b => some (ck (.bool b)) | none => none))
  | .unOp op _ x => (match op with
    | .not => (match asBool E x with | some b => some (ck (.bool (!b))) | none => none)
    | .neg => (match asInt E x with | some (ik, n) => some (ck (.int ik (ik.wrap (0 - n)))) | none => none)
    | .xor => (match asInt E x with | some (ik, n) => some (ck (.int ik (ik.wrap ((BitVec.ofInt ik.bits (if ik.signed then -1 else ik.max) ^^^ BitVec.ofInt ik.bits n).toNat : Int)))) | none => none)
    | _ => none)
  | .convert src dst x => (match P.underlying src, P.underlying dst with
    | some (.int _), some (.int ik) => (match asInt E x with | some (_, n) => some (ck (.int ik (ik.wrap n))) | none => none)
    | some .string, some .string => (match asStr E x with | some s => some (ck (.string s)) | none => none)
    | _, _ => none)
  | .makeFunc fn first cap => (match fn, xQs E first.toList, xQs E cap.toList with | .func g, some as, some bs => some (.p (.o (.f g as bs))) | _, _, _ => none)
  | .build t parts => xBuild P E t parts
  | .slice t x lo hi mx => (match mx with
    | some _ => none
    | none => (match P.underlying t with
      | some .string => (match asStr E x with | some s => (match xBd E (lenB s) (lenB s) lo hi with | some (i, j) => some (ck (.string (sub s i j))) | none => none) | none => none)
      | some (.slice el) => (match asSl E x, szOf P el with
        | some (p, len, cap), some sz => (match xBd E len cap lo hi with
          | some (i, j) => some (.p (.o (mkSl (match Nat.beq cap i with | true => p | false => (match p with | some q => some (q.add (i * sz)) | none => none)) (j - i) (cap - i))))
          | none => none)
        | none, some sz => (match xo E x with
          | some (.p (.o (.u b off i0 n))) => (match xBd E n n lo hi with
            | some (i, j) => (match Nat.beq i 0, Nat.blt i n with
              | true, _ => some (.p (.o (.u b off i0 j)))
              | _, true => some (.p (.o (.u b (off + i * sz) (i0 + i) (j - i))))
              | _, _ => none)
            | none => none)
          | _ => none)
        | _, _ => none)
      | some (.array n el) => (match asPc E x, szOf P el with
        | some p, some sz => (match xBd E n n lo hi with
          | some (i, j) => some (.p (.o (mkSl (some (match Nat.beq n i with | true => p | false => p.add (i * sz))) (j - i) (n - i))))
          | none => none)
        | _, _ => none)
      | _ => none))
  | .extract x i => (match xo E x with | some (.t vs) => (match nthL vs i with | some v => some (.p v) | none => none) | _ => none)
  | .call c => (match c.callee with
    | .builtin .len => (match c.args.toList with
      | [x] => (match (c.argTypes[0]?).bind P.underlying with
        | some (.slice _) => (match asSn E x with | some (_, n) => some (ck (.int .i64 (n : Int))) | none => none)
        | some .string => (match asStr E x with | some s => some (ck (.int .i64 (lenB s : Int))) | none => none)
        | _ => none)
      | _ => none)
    | .builtin .max => (match c.args.toList with | [x, y] => (match asInt E x, asInt E y with | some (ik, a), some (_, b) => some (ck (.int ik (if b > a then b else a))) | _, _ => none) | _ => none)
    | .builtin .min => (match c.args.toList with | [x, y] => (match asInt E x, asInt E y with | some (ik, a), some (_, b) => some (ck (.int ik (if b < a then b else a))) | _, _ => none) | _ => none)
    | _ => none)
  | _ => none
end Go.Xv
