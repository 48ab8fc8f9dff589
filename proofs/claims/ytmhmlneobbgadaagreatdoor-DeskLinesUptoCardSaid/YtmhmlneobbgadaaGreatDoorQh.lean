/- Regions, in a run whose arguments are known. -/
import Derived.Test.YtmhmlneobbgadaaGreatDoorQg
namespace Go.Xv
open Go Go.RowKit Go.Vc

noncomputable def xGuard (ops : List Oper) (E : XE) (j : Nat) : Option CV :=
  match ops[j]? with
  | some oj => (match oj.dst with | some d => E.get d | none => none)
  | none => none
theorem xGuard_up {r : Ro} {ops : List Oper} {E : XE} {e : Env} {j : Nat} {c : CV} (hE : Le r E e) (h : xGuard ops E j = some c) : ∃ v, guardVal ops e j = some v ∧ upV r c = some v := by
  unfold xGuard at h
  unfold guardVal
  split at h
  · rename_i oj hj
    rw [hj]
    dsimp only
    split at h
    · rename_i d hd; rw [hd]; exact hE _ _ h
    · cases h
  · cases h
section
variable (P : Program) (G : Gl) (ex : Ex) (cl : Cl)
noncomputable def xOps (ops : List Oper) : List Oper → XE → St → Option (XE × St)
  | [], E, S => some (E, S)
  | o :: r, E, S =>
    match o.guard with
    | none => (match xOp P G ex cl E o S with | some (c, S') => xOps ops r (E.put o.dst c) S' | none => none)
    | some (j, want) => (match xGuard ops E j with
      | some (.p (.o (.k (.bool true)))) => (match want with
        | true => (match xOp P G ex cl (E.put (guardDst ops j) (ck (.bool true))) o S with | some (c, S') => xOps ops r ((E.put (guardDst ops j) (ck (.bool true))).put o.dst c) S' | none => none)
        | false => xOps ops r ((E.put (guardDst ops j) (ck (.bool true))).put o.dst (ck undef)) S)
      | some (.p (.o (.k (.bool false)))) => (match want with
        | false => (match xOp P G ex cl (E.put (guardDst ops j) (ck (.bool false))) o S with | some (c, S') => xOps ops r ((E.put (guardDst ops j) (ck (.bool false))).put o.dst c) S' | none => none)
        | true => xOps ops r ((E.put (guardDst ops j) (ck (.bool false))).put o.dst (ck undef)) S)
      | some (.p (.o (.k (.tuple _)))) => xOps ops r (E.put o.dst (ck undef)) S
      | _ => none)
/-- A select of one case, with a default. -/
noncomputable def xSel (E : XE) (o : Oper) (S : St) : Option (CV × St) :=
  match o.op with
  | .select cases false => (match cases.toList, xKnown E o.op.operands.toList with
    | [c], true => (match xo E c.chan, zeroOf P c.elem with
      | some (.p (.o (.h b))), some z => (match getB S b with
        | some (.ch cap buf) => (match c.send with
          | some x => (match xo E x, Nat.blt buf.length cap with
            | some (.p d), true => some (.t [.o (.k (.int .i64 0)), .o (.k (.bool false))], setB S b (.ch cap (buf ++ [d])))
            | _, _ => none)
          | none => (match buf with
            | d :: rest => some (.t [.o (.k (.int .i64 0)), .o (.k (.bool true)), d], setB S b (.ch cap rest))
            | [] => some (.t [.o (.k (.int .i64 (-1))), .o (.k (.bool false)), zPV z], S)))
        | _ => none)
      | _, _ => none)
    | _, _ => none)
  | _ => none
noncomputable def xHd (ops : List Oper) (E : XE) (S : St) : Option (XE × St) :=
  match ops with
  | [] => some (E, S)
  | o :: r => match isSelect o.op, o.guard with
    | true, none => (match xSel P E o S with | some (c, S') => xOps P G ex cl ops r (E.put o.dst c) S' | none => none)
    | _, _ => xOps P G ex cl ops ops E S
noncomputable def xStill (E : XE) (o : Oper) (S : St) : Bool :=
  match o.op, o.dst with
  | .load t x, some d => (match E.get d, asPc E x with
    | some c, some p => (match xLoad P G S t p with | some c' => eqC c' c | none => false)
    | _, _ => false)
  | _, _ => false
noncomputable def xWant (ops : List Oper) (E : XE) (o : Oper) : Option Bool :=
  match o.guard with
  | none => some true
  | some (j, want) => (match xGuard ops E j with
    | some (.p (.o (.k (.bool b)))) => some (b == want)
    | some (.p (.o (.k (.tuple _)))) => some false
    | _ => none)
noncomputable def xStills (ops : List Oper) (E : XE) (S : St) : List Nat → Bool
  | [] => true
  | j :: r => match ops[j]? with
    | some o => (match xWant ops E o with
      | some true => xStill P G E o S && xStills ops E S r
      | some false => xStills ops E S r
      | none => false)
    | none => false
noncomputable def xSeqOp (ops : List Oper) (pre : List Nat) (i : Nat) (o : Oper) (E : XE) (S : St) : Option (XE × St) :=
  match xOp P G ex cl E o S with
  | some (c, S') => (match lightB P o with
    | true => some (E.put o.dst c, S')
    | false => (match xStills P G ops E S' (pendL ops pre i) with | true => some (E.put o.dst c, S') | false => none))
  | none => none
noncomputable def xSeqStep (ops : List Oper) (pre : List Nat) (i : Nat) (o : Oper) (E : XE) (S : St) : Option (XE × St) :=
  match o.guard with
  | none => xSeqOp P G ex cl ops pre i o E S
  | some (j, want) => (match xGuard ops E j with
    | some (.p (.o (.k (.bool true)))) => (match want with
      | true => xSeqOp P G ex cl ops pre i o (E.put (guardDst ops j) (ck (.bool true))) S
      | false => some ((E.put (guardDst ops j) (ck (.bool true))).put o.dst (ck undef), S))
    | some (.p (.o (.k (.bool false)))) => (match want with
      | false => xSeqOp P G ex cl ops pre i o (E.put (guardDst ops j) (ck (.bool false))) S
      | true => some ((E.put (guardDst ops j) (ck (.bool false))).put o.dst (ck undef), S))
    | some (.p (.o (.k (.tuple _)))) => some (E.put o.dst (ck undef), S)
    | _ => none)
noncomputable def xSeq (ops : List Oper) : List Nat → List Nat → XE → St → Option (XE × St)
  | [], _, E, S => some (E, S)
  | i :: r, pre, E, S => match ops[i]? with
    | some o => (match xSeqStep P G ex cl ops pre i o E S with | some (E', S') => xSeq ops r (i :: pre) E' S' | none => none)
    | none => none
/-- Beside an allocation f that may come anywhere ahead of those that wait for it: it comes as late as may be. -/
noncomputable def xFlt (ops : List Oper) (f : Nat) : List Nat → List Nat → XE → St → Option (XE × St)
  | [], pre, E, S => xSeq P G ex cl ops [f] pre E S
  | i :: r, pre, E, S => match aftOk ops (i :: r) [f] with
    | true => xSeq P G ex cl ops (f :: i :: r) pre E S
    | false => (match ops[i]? with
      | none => none
      | some o => (match (match lightB P o with | true => true | false => xStills P G ops E S (pendL ops pre f)) with
        | true => (match xSeqStep P G ex cl ops pre i o E S with | some (E', S') => xFlt ops f r (i :: pre) E' S' | none => none)
        | false => none))
noncomputable def fltAl (ops : List Oper) (f : Nat) : Bool := match ops[f]? with
  | some o => (match o.op, o.guard, o.dst with | .alloc _, none, some _ => true | _, _, _ => false)
  | none => false
/-- As oldOps, where what stood in a slot is a plain value. -/
noncomputable def xOldV (E : XE) (ops : List Oper) (d r : Nat) : Option (Option Value) :=
  match E.get d with
  | none => some none
  | some c => match oldV [(d, undef)] ops d r with
    | some _ => (match c with | .p (.o (.k v)) => some (some v) | _ => none)
    | none => some none
noncomputable def xOldOne (E : XE) (ops : List Oper) (o : Oper) (r : Nat) : Option Oper :=
  match o.guard with
  | some _ => some o
  | none => match o.op with
    | .move (.tmp d) => (match xOldV E ops d r with | some (some v) => some { o with op := .move (.const v) } | some none => some o | none => none)
    | .assign (.tmp d) => (match xOldV E ops d r with | some (some v) => some { o with op := .move (.const v) } | some none => some o | none => none)
    | _ => some o
noncomputable def xOldL (E : XE) (ops : List Oper) : List (Oper × Nat) → Option (List Oper)
  | [] => some []
  | (o, i) :: l => match xOldOne E ops o i, xOldL E ops l with | some p, some m => some (p :: m) | _, _ => none
noncomputable def xDraw (plan : Plan) (id : Nat) (ops : List Oper) (E : XE) (S : St) : Option (XE × St) :=
  match plan.get id with
  | some (t :: T) => (match Nat.beq t 9999 with
    | true => (match seqOk P ops T with | true => xSeq P G ex cl ops T [] (E.drop (dsts ops)) S | false => none)
    | false => (match Nat.beq t 9998 with
      | true => (match xOldL E ops ops.zipIdx with
        | some ops' => (match seqOk P ops' T with | true => xSeq P G ex cl ops' T [] (E.drop (dsts ops')) S | false => none)
        | none => none)
      | false => (match Nat.beq t 9997, T with
        | true, f :: L => (match fltOk P ops f L && fltAl ops f with | true => xFlt P G ex cl ops f L [] (E.drop (dsts ops)) S | false => none)
        | _, _ => none)))
  | _ => none
end
section
variable {P : Program} {G : Gl} {T : Nat → Prop} {ex : Ex} {cl : Cl}
noncomputable def isAgg (W : World) (a : Addr) (n : Nat) : Value → Prop
  | .agg cs => cs.size = n ∧ Row W a cs.toList
  | _ => False
theorem ldN_is {W : World} {a : Addr} {n : Nat} {v : Value} (h : LdN W a n fun w => w = v) : isAgg W a n v := by
  obtain ⟨cs, h1, h2, h3⟩ := h
  have h3 : .agg cs.toArray = v := h3
  subst h3
  exact ⟨by simpa using h1, by simpa using h2⟩
theorem ld1_is {W : World} {a : Addr} {t : TypeId} {v : Value} (h : Ld1 W a fun u => As1 P t u fun w => w = v) : W.cell? a = some v := by
  obtain ⟨u, h1, h2⟩ := h
  have h3 := h2.out; rw [← h3]; exact h1
theorem xStill_ok {W0 W : World} {r : Ro} {E : XE} {e : Env} {o : Oper} {S : St} (hE : Le r E e) (hS : Sim P G T W0 W r S) (h : xStill P G E o S = true) : Still P e o W := by
  obtain ⟨dst, op, type, pos, after, guard⟩ := o
  unfold xStill at h
  split at h
  · rename_i t x d ho hd
    dsimp only at ho hd
    subst ho hd
    split at h
    · rename_i c p hc hp
      obtain ⟨v, hv, hvc⟩ := hE _ _ hc
      obtain ⟨a, ha, hu⟩ := asPc_rho hE hp
      split at h
      · rename_i c' hl
        have := eqC_ok h
        subst this
        have key := hS.load (k := fun w => w = v) hu hl fun w hw => by rw [hvc] at hw; exact (Option.some.inj hw).symm
        unfold Still
        dsimp only
        rw [hv]
        dsimp only
        rw [ha]
        dsimp only
        revert key
        cases P.underlying t with
        | none => exact id
        | some d =>
          cases d <;> first | exact ldN_is | exact ld1_is
      · cases h
    · cases h
  · cases h
theorem xWant_ok {r : Ro} {ops : List Oper} {E : XE} {e : Env} {o : Oper} {b : Bool} (hE : Le r E e) (h : xWant ops E o = some b) : wantE ops e o = some b := by
  unfold xWant at h
  unfold wantE
  split at h
  · rename_i hg; rw [hg]; exact h
  · rename_i j want hg
    rw [hg]
    dsimp only
    split at h
    · rename_i b' hx
      obtain ⟨v, h1, h2⟩ := xGuard_up hE hx
      cases h2
      rw [h1]; exact h
    · rename_i vs hx
      obtain ⟨v, h1, h2⟩ := xGuard_up hE hx
      cases h2
      rw [h1]; exact h
    · cases h
theorem xStills_mem {ops : List Oper} {E : XE} {S : St} : ∀ {l : List Nat}, xStills P G ops E S l = true → ∀ j ∈ l, ∃ o, ops[j]? = some o ∧ ((xWant ops E o = some true ∧ xStill P G E o S = true) ∨ xWant ops E o = some false)
  | [], _, j, hj => by cases hj
  | i :: l, h, j, hj => by
    unfold xStills at h
    split at h
    · rename_i o ho
      split at h
      · rename_i hw
        obtain ⟨h1, h2⟩ := Bool.and_eq_true_iff.1 h
        rcases List.mem_cons.1 hj with rfl | hj
        · exact ⟨o, ho, .inl ⟨hw, h1⟩⟩
        · exact xStills_mem h2 j hj
      · rename_i hw
        rcases List.mem_cons.1 hj with rfl | hj
        · exact ⟨o, ho, .inr hw⟩
        · exact xStills_mem h j hj
      · cases h
    · cases h
theorem xStills_ok {W0 W : World} {r : Ro} {ops : List Oper} {E : XE} {e : Env} {S : St} (hE : Le r E e) (hS : Sim P G T W0 W r S) {k : Prop} (hk : k) {l : List Nat} (h : xStills P G ops E S l = true) : ∀ {m : List Nat}, (∀ j ∈ m, j ∈ l) → sStills P ops e W k m
  | [], _ => hk
  | j :: m, hm => by
    obtain ⟨o, ho, h1⟩ := xStills_mem h j (hm j List.mem_cons_self)
    unfold sStills
    rw [ho]
    dsimp only
    have ih := xStills_ok hE hS hk h (m := m) fun i hi => hm i (List.mem_cons_of_mem _ hi)
    rcases h1 with ⟨hw, h2⟩ | hw
    · rw [xWant_ok hE hw]; exact ⟨xStill_ok hE hS h2, ih⟩
    · rw [xWant_ok hE hw]; exact ih
/-- How the slots may be told of: what holds of puts. -/
structure Rel (ok : Nat → Prop) (Q : Ro → XE → Env → Prop) : Prop where
  le : ∀ {r E e}, Q r E e → Le r E e
  ext : ∀ {r r' E e}, Ext r r' → Q r E e → Q r' E e
  put : ∀ {r E e c v d}, Q r E e → upV r c = some v → (∀ n, d = some n → ok n) → Q r (E.put d c) (e.put d v)
  got : ∀ {r E e n c}, Q r E e → E.get n = some c → ok n
theorem rel_UE : Rel (fun _ => True) UE := ⟨UE.le, fun hx h => UE.ext hx h, fun h hc _ => h.put hc _, fun _ _ => trivial⟩
/-- But for one slot, that holds more than is told. -/
def UF (d : Nat) (v : Value) (r : Ro) (E : XE) (e : Env) : Prop := E.get d = none ∧ e.get d = some v ∧ ∀ n, n ≠ d → match E.get n with | some c => ∃ v, e.get n = some v ∧ upV r c = some v | none => e.get n = none
theorem beq_ne {m n : Nat} (h : m ≠ n) : Nat.beq m n = false := by
  cases hb : Nat.beq m n with
  | true => exact absurd (Nat.eq_of_beq_eq_true hb) h
  | false => rfl
theorem rel_UF (d : Nat) (v : Value) : Rel (fun n => n ≠ d) (UF d v) := by
  refine ⟨fun {r E e} h n c hc => ?_, fun {r r' E e} hx h => ⟨h.1, h.2.1, fun n hn => ?_⟩, fun {r E e c u x} h hc hd => ?_, fun {r E e n c} h hc hn => ?_⟩
  · have hn : n ≠ d := fun e0 => by rw [e0, h.1] at hc; cases hc
    have := h.2.2 n hn
    rw [hc] at this; exact this
  · have := h.2.2 n hn
    cases hg : E.get n with
    | none => rw [hg] at this; exact this
    | some c => rw [hg] at this; obtain ⟨w, h1, h2⟩ := this; exact ⟨w, h1, upV_ext hx h2⟩
  · cases x with
    | none => exact h
    | some x =>
      have hxd := hd x rfl
      refine ⟨?_, ?_, fun n hn => ?_⟩
      · show XE.get ((x, c) :: E) d = none
        rw [XE.get_cons, beq_ne hxd]; exact h.1
      · show Env.get ((x, u) :: e) d = some v
        rw [env_get_cons, beq_ne hxd]; exact h.2.1
      · show match XE.get ((x, c) :: E) n with | some c => ∃ v, Env.get ((x, u) :: e) n = some v ∧ upV r c = some v | none => Env.get ((x, u) :: e) n = none
        rw [XE.get_cons, env_get_cons]
        cases Nat.beq x n with
        | true => exact ⟨u, rfl, hc⟩
        | false => exact h.2.2 n hn
  · subst hn; rw [h.1] at hc; cases hc
theorem pendL_mem {ops : List Oper} {pre : List Nat} {i j : Nat} : j ∈ pendL ops pre i ↔ j ∈ pre ∧ (match (match ops[j]? with | some o => isLoad o.op | none => false) with | true => !(memB (sunkL ops i [i]) j) | false => false) = true := by
  unfold pendL
  exact List.mem_filter
variable {W0 : World}
theorem xOps_ok (hex : ExOk P ex) (hcl : CallsOk P G cl) {ops : List Oper} {kn : Env → World → Prop} {kp : List PanicEntry → World → Prop} : ∀ {l : List Oper} {E E' : XE} {S S' : St}, xOps P G ex cl ops l E S = some (E', S') → ∀ {r : Ro} {e : Env} {W : World}, UE r E e → Sim P G T W0 W r S →
    (∀ r' e' W', Ext r r' → UE r' E' e' → Sim P G T W0 W' r' S' → kn e' W') → vcOps P ops kn kp l e W
  | [], E, E', S, S', h, r, e, W, hE, hS, hk => by cases h; exact hk r e W (Ext.refl r) hE hS
  | o :: l, E, E', S, S', h, r, e, W, hE, hS, hk => by
    unfold xOps at h
    unfold vcOps
    split at h
    · rename_i hg
      rw [hg]
      dsimp only
      split at h
      · rename_i c S1 ho
        refine xOp_ok hex hcl hE.le hS ho fun r1 v W1 hx hv hS1 => ?_
        exact xOps_ok hex hcl h (UE.put (UE.ext hx hE) hv o.dst) hS1 fun r' e' W' hx' => hk r' e' W' (hx.trans hx')
      · cases h
    · rename_i j want hg
      rw [hg]
      dsimp only
      split at h
      · rename_i hx
        obtain ⟨v, h1, h2⟩ := xGuard_up hE.le hx
        cases h2
        rw [h1]
        dsimp only [Gd]
        have hE1 := UE.put hE (up_ck r (.bool true)) (guardDst ops j)
        cases want with
        | true =>
          dsimp only at h ⊢
          split at h
          · rename_i c S1 ho
            refine xOp_ok hex hcl hE1.le hS ho fun r1 v W1 hx hv hS1 => ?_
            exact xOps_ok hex hcl h (UE.put (UE.ext hx hE1) hv o.dst) hS1 fun r' e' W' hx' => hk r' e' W' (hx.trans hx')
          · cases h
        | false => exact xOps_ok hex hcl h (UE.put hE1 (up_ck r undef) o.dst) hS hk
      · rename_i hx
        obtain ⟨v, h1, h2⟩ := xGuard_up hE.le hx
        cases h2
        rw [h1]
        dsimp only [Gd]
        have hE1 := UE.put hE (up_ck r (.bool false)) (guardDst ops j)
        cases want with
        | false =>
          dsimp only at h ⊢
          split at h
          · rename_i c S1 ho
            refine xOp_ok hex hcl hE1.le hS ho fun r1 v W1 hx hv hS1 => ?_
            exact xOps_ok hex hcl h (UE.put (UE.ext hx hE1) hv o.dst) hS1 fun r' e' W' hx' => hk r' e' W' (hx.trans hx')
          · cases h
        | true => exact xOps_ok hex hcl h (UE.put hE1 (up_ck r undef) o.dst) hS hk
      · rename_i vs hx
        obtain ⟨v, h1, h2⟩ := xGuard_up hE.le hx
        cases h2
        rw [h1]
        exact xOps_ok hex hcl h (UE.put hE (up_ck r undef) o.dst) hS hk
      · cases h
theorem upPs_app {r : Ro} : ∀ {cs ds : List PV} {l m : List Value}, upPs r cs = some l → upPs r ds = some m → upPs r (cs ++ ds) = some (l ++ m)
  | [], _, l, _, h, h' => by cases h; exact h'
  | c :: cs, ds, l, m, h, h' => by
    obtain ⟨v, k, rfl, h1, h2⟩ := upPs_cons h
    exact upPs_mk h1 (upPs_app h2 h')
theorem xSel_ok {o : Oper} {E : XE} {S S' : St} {c : CV} (h : xSel P E o S = some (c, S')) {r : Ro} {e : Env} {W : World} (hE : UE r E e) (hS : Sim P G T W0 W r S) {k : Value → World → Prop} (hk : ∀ v W', upV r c = some v → Sim P G T W0 W' r S' → k v W') : vSel P e o W k := by
  obtain ⟨dst, op, type, pos, after, guard⟩ := o
  unfold xSel at h
  unfold vSel
  dsimp only at h ⊢
  split at h
  · rename_i cases
    split at h
    · rename_i c0 hc hkn
      dsimp only
      rw [hc, xKnown_up hE.le hkn]
      dsimp only
      split at h
      · rename_i b z hx hz
        obtain ⟨y, e1, e2⟩ := up_h (xo_rho hE.le hx)
        rw [e2, hz]
        dsimp only
        split at h
        · rename_i cap buf hg
          obtain ⟨y', e3, e4⟩ := hS.ok _ _ hg
          rw [e1] at e3; cases e3
          cases e4 with
          | ch g1 g2 =>
            rename_i vs q1 q2
            have hlen := upPs_len g1
            refine ⟨cap, vs.toArray, q1, q2, g2, ?_⟩
            split at h
            · rename_i x hsd
              rw [hsd]
              dsimp only
              split at h
              · rename_i d hd hlt
                cases h
                have hd' : upP r d = some (rho e x) := xo_rho hE.le hd
                refine ⟨by rw [List.size_toArray, hlen]; exact Nat.blt_eq.mp hlt, hk _ _ rfl (hS.turned hg e1 g2 (.ch (vs := vs ++ [rho e x]) (a := q1 + 1) (b := q2) (upPs_app g1 (upPs_mk hd' rfl)) ?_))⟩
                rw [setBlk_same g2]
                simp
              · cases h
            · rename_i hsd
              rw [hsd]
              dsimp only
              split at h
              · rename_i d rest
                cases h
                obtain ⟨v, m, rfl, h1, h2⟩ := upPs_cons g1
                refine .inl ⟨by simp, hk _ _ ?_ (hS.turned hg e1 g2 (.ch (vs := m) (a := q1) (b := q2 + 1) h2 ?_))⟩
                · have e4 : upPs r [.o (.k (.int .i64 0)), .o (.k (.bool true)), d] = some [.int .i64 0, .bool true, v] := upPs_mk rfl (upPs_mk rfl (upPs_mk h1 rfl))
                  simp only [upV, e4]
                  rfl
                · rw [setBlk_same g2]
                  simp
              · cases h
                cases g1
                refine .inr ⟨rfl, hk _ _ ?_ hS⟩
                have e4 : upPs r [.o (.k (.int .i64 (-1))), .o (.k (.bool false)), zPV z] = some [.int .i64 (-1), .bool false, z] := upPs_mk rfl (upPs_mk rfl (upPs_mk (zPV_up r z) rfl))
                simp only [upV, e4]
                rfl
        · cases h
      · cases h
    · cases h
  · cases h
theorem xHd_ok (hex : ExOk P ex) (hcl : CallsOk P G cl) {ops : List Oper} {kn : Env → World → Prop} {kp : List PanicEntry → World → Prop} {E E' : XE} {S S' : St} (h : xHd P G ex cl ops E S = some (E', S')) {r : Ro} {e : Env} {W : World} (hE : UE r E e) (hS : Sim P G T W0 W r S)
    (hk : ∀ r' e' W', Ext r r' → UE r' E' e' → Sim P G T W0 W' r' S' → kn e' W') : vcHd P ops kn kp e W := by
  unfold xHd at h
  unfold vcHd
  split at h
  · cases h; exact hk r e W (Ext.refl r) hE hS
  · dsimp only
    split at h
    · rename_i h1 h2
      rw [h1, h2]
      dsimp only
      split at h
      · rename_i c S1 hc
        exact xSel_ok hc hE hS fun v W1 hv hS1 => xOps_ok hex hcl h (hE.put hv _) hS1 hk
      · cases h
    · rename_i hn
      split
      · rename_i h1 h2; exact (hn h1 h2).elim
      · exact xOps_ok hex hcl h hE hS hk
theorem xSeqOp_ok (hex : ExOk P ex) (hcl : CallsOk P G cl) {ok : Nat → Prop} {Q : Ro → XE → Env → Prop} (hQ : Rel ok Q) {ops : List Oper} {pre pre2 : List Nat} {i : Nat} {o : Oper} {E E' : XE} {S S' : St} (hp : ∀ j ∈ pendL ops pre2 i, j ∈ pendL ops pre i) (hd : ∀ n, o.dst = some n → ok n) (h : xSeqOp P G ex cl ops pre i o E S = some (E', S')) {r : Ro} {e : Env} {W : World} (hE : Q r E e) (hS : Sim P G T W0 W r S) {R : Env → World → Prop} {kp : List PanicEntry → World → Prop}
    (hk : ∀ r' e' W', Ext r r' → Q r' E' e' → Sim P G T W0 W' r' S' → R e' W') : seqOp P ops pre2 i o e W R kp := by
  unfold xSeqOp at h
  unfold seqOp
  split at h
  · rename_i c S1 ho
    refine xOp_ok hex hcl (hQ.le hE) hS ho fun r1 v W1 hx hv hS1 => ?_
    have hE1 := hQ.ext hx hE
    split at h
    · rename_i hl
      cases h
      rw [hl]
      exact hk r1 _ W1 hx (hQ.put hE1 hv hd) hS1
    · rename_i hl
      rw [hl]
      split at h
      · rename_i hst
        cases h
        exact xStills_ok (hQ.le hE1) hS1 (hk r1 _ W1 hx (hQ.put hE1 hv hd) hS1) hst hp
      · cases h
  · cases h
theorem xGuard_ok {ok : Nat → Prop} {Q : Ro → XE → Env → Prop} (hQ : Rel ok Q) {ops : List Oper} {r : Ro} {E : XE} {e : Env} {j : Nat} {c : CV} (hE : Q r E e) (h : xGuard ops E j = some c) : ∀ n, guardDst ops j = some n → ok n := by
  unfold xGuard at h
  intro n hn
  unfold guardDst at hn
  split at h
  · rename_i oj hj
    rw [hj] at hn
    dsimp only [Option.bind] at hn
    split at h
    · rename_i d hd
      have : d = n := by rw [hd] at hn; exact Option.some.inj hn
      subst this
      exact hQ.got hE h
    · cases h
  · cases h
theorem xSeqStep_ok (hex : ExOk P ex) (hcl : CallsOk P G cl) {ok : Nat → Prop} {Q : Ro → XE → Env → Prop} (hQ : Rel ok Q) {ops : List Oper} {pre pre2 : List Nat} {i : Nat} {o : Oper} {E E' : XE} {S S' : St} (hp : ∀ j ∈ pendL ops pre2 i, j ∈ pendL ops pre i) (hd : ∀ n, o.dst = some n → ok n) (h : xSeqStep P G ex cl ops pre i o E S = some (E', S')) {r : Ro} {e : Env} {W : World} (hE : Q r E e) (hS : Sim P G T W0 W r S) {R : Env → World → Prop} {kp : List PanicEntry → World → Prop}
    (hk : ∀ r' e' W', Ext r r' → Q r' E' e' → Sim P G T W0 W' r' S' → R e' W') : seqStep P ops pre2 i o e W R kp := by
  unfold xSeqStep at h
  unfold seqStep
  split at h
  · rename_i hg; rw [hg]; exact xSeqOp_ok hex hcl hQ hp hd h hE hS hk
  · rename_i j want hg
    rw [hg]
    dsimp only
    split at h
    · rename_i hx
      obtain ⟨v, h1, h2⟩ := xGuard_up (hQ.le hE) hx
      cases h2
      rw [h1]
      dsimp only [Gd]
      have hE1 := hQ.put hE (up_ck r (.bool true)) (xGuard_ok hQ hE hx)
      cases want with
      | true => exact xSeqOp_ok hex hcl hQ hp hd h hE1 hS hk
      | false => cases h; exact hk r _ W (Ext.refl r) (hQ.put hE1 (up_ck r undef) hd) hS
    · rename_i hx
      obtain ⟨v, h1, h2⟩ := xGuard_up (hQ.le hE) hx
      cases h2
      rw [h1]
      dsimp only [Gd]
      have hE1 := hQ.put hE (up_ck r (.bool false)) (xGuard_ok hQ hE hx)
      cases want with
      | false => exact xSeqOp_ok hex hcl hQ hp hd h hE1 hS hk
      | true => cases h; exact hk r _ W (Ext.refl r) (hQ.put hE1 (up_ck r undef) hd) hS
    · rename_i vs hx
      obtain ⟨v, h1, h2⟩ := xGuard_up (hQ.le hE) hx
      cases h2
      rw [h1]
      cases h
      exact hk r _ W (Ext.refl r) (hQ.put hE (up_ck r undef) hd) hS
    · cases h
theorem xSeq_ok (hex : ExOk P ex) (hcl : CallsOk P G cl) {ops : List Oper} {kn : Env → World → Prop} {kp : List PanicEntry → World → Prop} : ∀ {l pre pre2 : List Nat} {E E' : XE} {S S' : St}, (∀ j ∈ pre2, j ∈ pre) → xSeq P G ex cl ops l pre E S = some (E', S') → ∀ {r : Ro} {e : Env} {W : World}, UE r E e → Sim P G T W0 W r S →
    (∀ r' e' W', Ext r r' → UE r' E' e' → Sim P G T W0 W' r' S' → kn e' W') → vcSeq P ops kn kp l pre2 e W
  | [], pre, pre2, E, E', S, S', hp, h, r, e, W, hE, hS, hk => by cases h; exact hk r e W (Ext.refl r) hE hS
  | i :: l, pre, pre2, E, E', S, S', hp, h, r, e, W, hE, hS, hk => by
    unfold xSeq at h
    unfold vcSeq
    split at h
    · rename_i o ho
      rw [ho]
      dsimp only
      split at h
      · rename_i E1 S1 h1
        refine xSeqStep_ok hex hcl rel_UE (fun j hj => pendL_mem.2 ⟨hp j (pendL_mem.1 hj).1, (pendL_mem.1 hj).2⟩) (fun _ _ => trivial) h1 hE hS fun r1 e1 W1 hx hE1 hS1 => ?_
        exact xSeq_ok hex hcl (fun j hj => by rcases List.mem_cons.1 hj with h | h; exact h ▸ List.mem_cons_self; exact List.mem_cons_of_mem _ (hp j h)) h hE1 hS1 fun r' e' W' hx' => hk r' e' W' (hx.trans hx')
      · cases h
    · cases h
theorem xSeqStep_get {ops : List Oper} {pre : List Nat} {i : Nat} {o : Oper} {E E' : XE} {S S' : St} {d : Nat} (hd : ∀ n, o.dst = some n → n ≠ d) (h : xSeqStep P G ex cl ops pre i o E S = some (E', S')) (hE : E.get d = none) : E'.get d = none := by
  have put : ∀ {F : XE} {x : Option Nat} {c : CV}, F.get d = none → (∀ n, x = some n → n ≠ d) → (F.put x c).get d = none := fun {F x c} hF hx => by
    cases x with
    | none => exact hF
    | some x => show XE.get ((x, c) :: F) d = none; rw [XE.get_cons, beq_ne (hx x rfl)]; exact hF
  have op : ∀ {F F' : XE} {S S' : St}, F.get d = none → xSeqOp P G ex cl ops pre i o F S = some (F', S') → F'.get d = none := fun {F F' S S'} hF h => by
    unfold xSeqOp at h
    split at h
    · split at h
      · cases h; exact put hF hd
      · split at h
        · cases h; exact put hF hd
        · cases h
    · cases h
  have gd : ∀ {j : Nat} {c : CV}, xGuard ops E j = some c → ∀ n, guardDst ops j = some n → n ≠ d := fun {j c} h n hn e0 => by
    subst e0
    unfold xGuard at h
    unfold guardDst at hn
    split at h
    · rename_i oj hj
      rw [hj] at hn
      dsimp only [Option.bind] at hn
      split at h
      · rename_i x hx
        have : x = n := by rw [hx] at hn; exact Option.some.inj hn
        subst this
        rw [hE] at h; cases h
      · cases h
    · cases h
  unfold xSeqStep at h
  split at h
  · exact op hE h
  · split at h
    · rename_i hx
      split at h
      · exact op (put hE (gd hx)) h
      · cases h; exact put (put hE (gd hx)) hd
    · rename_i hx
      split at h
      · exact op (put hE (gd hx)) h
      · cases h; exact put (put hE (gd hx)) hd
    · cases h; exact put hE hd
    · cases h
theorem fltOk_dst {ops : List Oper} {f : Nat} {L : List Nat} (h : fltOk P ops f L = true) {of : Oper} {d : Nat} (hf : ops[f]? = some of) (hd : of.dst = some d) : ∀ i o n, ops[i]? = some o → i ≠ f → o.dst = some n → n ≠ d := fun i o n ho hi hn e => by
  unfold fltOk at h
  simp only [Bool.and_eq_true] at h
  obtain ⟨⟨⟨⟨⟨⟨⟨_, hnd⟩, _⟩, _⟩, _⟩, _⟩, _⟩, _⟩ := h
  exact hi (same_dst (nodupB_spec _ hnd) ho hf hn (e ▸ hd))
theorem fltOk_mem {ops : List Oper} {f : Nat} {L : List Nat} (h : fltOk P ops f L = true) : f ∉ L := by
  unfold fltOk at h
  simp only [Bool.and_eq_true] at h
  obtain ⟨⟨⟨⟨⟨⟨⟨_, _⟩, _⟩, hn⟩, _⟩, _⟩, _⟩, _⟩ := h
  exact (List.nodup_cons.1 (nodupB_spec _ hn)).1
section flt
variable {ops : List Oper} {f : Nat} {of : Oper} {t : TypeId} {d : Nat}
/-- The allocation in its place. -/
theorem xSeq_alloc (hf : ops[f]? = some of) (hop : of.op = .alloc t) (hgd : of.guard = none) (hdst : of.dst = some d) {r' : List Nat} {pre : List Nat} {E E' : XE} {S S' : St} (h : xSeq P G ex cl ops (f :: r') pre E S = some (E', S')) : ∃ z, zeroOf P t = some z ∧ xSeq P G ex cl ops r' (f :: pre) (E.put (some d) (.p (.o (.p (next S) 0)))) ((next S, some (.cl (z.cells.toList.map .k) t)) :: S) = some (E', S') := by
  unfold xSeq at h
  rw [hf] at h
  dsimp only at h
  obtain ⟨dst, op, type, pos, after, guard⟩ := of
  dsimp only at hop hgd hdst
  subst hop hgd hdst
  simp only [xSeqStep, xSeqOp, xOp, isSelect, cls] at h
  split at h
  · rename_i E1 S1 h1
    split at h1
    · rename_i c S2 h2
      split at h2
      · unfold xEff at h2
        dsimp only at h2
        split at h2
        · rename_i z hz
          cases h2
          split at h1
          · cases h1; exact ⟨z, hz, h⟩
          · split at h1
            · cases h1; exact ⟨z, hz, h⟩
            · cases h1
        · cases h2
      · cases h2
    · cases h1
  · cases h
/-- The allocation came ahead. -/
theorem xFlt_early (hex : ExOk P ex) (hcl : CallsOk P G cl) (hf : ops[f]? = some of) (hop : of.op = .alloc t) (hgd : of.guard = none) (hdst : of.dst = some d) (hnd : ∀ i o n, ops[i]? = some o → i ≠ f → o.dst = some n → n ≠ d) {kn : Env → World → Prop} {kp : List PanicEntry → World → Prop} {W1 : World} {lo : Nat} {z : Value} (hz : zeroOf P t = some z) (g0 : ∀ a cs, G a = some cs → T a ∧ ∃ t fz, W0.heap[a]? = some (.cells cs.toArray t fz)) (t0 : ∀ c, T c → c < W0.heap.size) (b0 : Bel T W0 W1) (hlo : W1.heap[lo]? = some (.cells z.cells t (0, 0))) (hlT : ¬ T lo) :
    ∀ {l pre pre2 : List Nat} {E E' : XE} {S S' : St}, f ∉ l → (∀ j ∈ pre2, j = f ∨ j ∈ pre) → xFlt P G ex cl ops f l pre E S = some (E', S') → ∀ {r : Ro} {e : Env} {W : World}, UF d (.pointer (some ⟨lo, 0, none⟩)) r E e → Sim P G (fun c => T c ∨ c = lo) W1 W r S →
      (∀ r' e' W', Ext r r' → UE r' E' e' → Sim P G T W0 W' r' S' → kn e' W') → vcSeq P ops kn kp l pre2 e W := by
  -- where the allocation's place comes
  have here : ∀ {l pre pre2 : List Nat} {E E' : XE} {S S' : St}, (∀ j ∈ pre2, j = f ∨ j ∈ pre) → xSeq P G ex cl ops (f :: l) pre E S = some (E', S') → ∀ {r : Ro} {e : Env} {W : World}, UF d (.pointer (some ⟨lo, 0, none⟩)) r E e → Sim P G (fun c => T c ∨ c = lo) W1 W r S →
      (∀ r' e' W', Ext r r' → UE r' E' e' → Sim P G T W0 W' r' S' → kn e' W') → vcSeq P ops kn kp l pre2 e W := fun {l pre pre2 E E' S S'} hp h {r e W} hE hS hk => by
    obtain ⟨z', hz', h1⟩ := xSeq_alloc hf hop hgd hdst h
    rw [hz] at hz'; cases hz'
    have hS0 : Sim P G T W0 W r S := ⟨g0, t0, ⟨hS.bel.os.trans b0.os, hS.bel.tape.trans b0.tape, hS.bel.output.trans b0.output, Nat.le_trans b0.size hS.bel.size, fun c hc => (hS.bel.block c (.inl hc)).trans (b0.block c hc)⟩, hS.inj, fun k x y g hy ht => hS.lo k x y g hy (.inl ht), hS.ok, hS.fresh, hS.srt⟩
    obtain ⟨r1, hx1, hr1, hS1⟩ := hS0.add (x := .cl (z.cells.toList.map .k) t) (y := (lo, 0, fun _ _ => .deferred none)) (Below.refl _ W) hlT (fun k x u g hu e => hS.lo k x u g hu (.inr e)) fun r' _ => .cl (upL_k _) (by rw [hS.bel.block lo (.inr rfl), Array.toArray_toList]; exact hlo)
    refine xSeq_ok hex hcl (fun j hj => ?_) h1 (fun n => ?_) hS1 fun r' e' W' hx => hk r' e' W' (hx1.trans hx)
    · rcases hp j hj with rfl | h
      · exact List.mem_cons_self
      · exact List.mem_cons_of_mem _ h
    · show match XE.get ((d, .p (.o (.p (next S) 0))) :: E) n with | some c => ∃ v, e.get n = some v ∧ upV r1 c = some v | none => e.get n = none
      rw [XE.get_cons]
      by_cases hn : n = d
      · subst hn
        rw [Nat.beq_refl]
        exact ⟨_, hE.2.1, by simp only [upV, upP, up1, hr1]⟩
      · rw [beq_ne (Ne.symm hn)]
        have := ((rel_UF d _).ext hx1 hE).2.2 n hn
        exact this
  intro l
  induction l with
  | nil =>
    intro pre pre2 E E' S S' hfl hp h r e W hE hS hk
    unfold xFlt at h
    exact here hp h hE hS hk
  | cons i l ih =>
    intro pre pre2 E E' S S' hfl hp h r e W hE hS hk
    unfold xFlt at h
    split at h
    · exact here hp h hE hS hk
    · split at h
      · cases h
      · rename_i o ho
        split at h
        · split at h
          · rename_i E1 S1 h1
            unfold vcSeq
            rw [ho]
            dsimp only
            have hif : i ≠ f := fun e => hfl (e ▸ List.mem_cons_self)
            refine xSeqStep_ok hex hcl (rel_UF d _) (fun j hj => ?_) (fun n hn => hnd i o n ho hif hn) h1 hE hS fun r1 e1 W2 hx hE1 hS1 => ?_
            · obtain ⟨q1, q2⟩ := pendL_mem.1 hj
              rcases hp j q1 with rfl | h
              · rw [hf] at q2
                dsimp only at q2
                rw [hop] at q2
                cases q2
              · exact pendL_mem.2 ⟨h, q2⟩
            · exact ih (fun h => hfl (List.mem_cons_of_mem _ h)) (fun j hj => by
                rcases List.mem_cons.1 hj with rfl | hj
                · exact .inr List.mem_cons_self
                · rcases hp j hj with h | h
                  · exact .inl h
                  · exact .inr (List.mem_cons_of_mem _ h)) h hE1 hS1 fun r' e' W' hx' => hk r' e' W' (hx.trans hx')
          · cases h
        · cases h
theorem xFlt_ok (hex : ExOk P ex) (hcl : CallsOk P G cl) (hf : ops[f]? = some of) (hop : of.op = .alloc t) (hgd : of.guard = none) (hdst : of.dst = some d) (hnd : ∀ i o n, ops[i]? = some o → i ≠ f → o.dst = some n → n ≠ d) {kn : Env → World → Prop} {kp : List PanicEntry → World → Prop} : ∀ {l pre : List Nat} {E E' : XE} {S S' : St}, f ∉ l → xFlt P G ex cl ops f l pre E S = some (E', S') → E.get d = none → ∀ {r : Ro} {e : Env} {W : World}, UE r E e → Sim P G T W0 W r S →
      (∀ r' e' W', Ext r r' → UE r' E' e' → Sim P G T W0 W' r' S' → kn e' W') → vcFlt P ops f kn kp l pre e W
  | [], pre, E, E', S, S', hfl, h, hd, r, e, W, hE, hS, hk => by
    unfold xFlt at h
    unfold vcFlt
    exact xSeq_ok hex hcl (fun _ h => h) h hE hS hk
  | i :: l, pre, E, E', S, S', hfl, h, hd, r, e, W, hE, hS, hk => by
    have h0 := h
    unfold xFlt at h
    unfold vcFlt
    split at h
    · rename_i ha
      rw [ha]
      exact xSeq_ok hex hcl (fun _ h => h) h hE hS hk
    · rename_i ha
      rw [ha]
      dsimp only
      split at h
      · cases h
      · rename_i o ho
        rw [ho]
        dsimp only
        have hif : i ≠ f := fun e => hfl (e ▸ List.mem_cons_self)
        split at h
        · rename_i hst
          split at h
          · rename_i E1 S1 h1
            have late : seqStep P ops pre i o e W (fun e w => vcFlt P ops f kn kp l (i :: pre) e w) kp :=
              xSeqStep_ok hex hcl rel_UE (fun _ h => h) (fun _ _ => trivial) h1 hE hS fun r1 e1 W2 hx hE1 hS1 =>
                xFlt_ok hex hcl hf hop hgd hdst hnd (fun h => hfl (List.mem_cons_of_mem _ h)) h (xSeqStep_get (fun n hn => hnd i o n ho hif hn) h1 hd) hE1 hS1 fun r' e' W' hx' => hk r' e' W' (hx.trans hx')
            split
            · exact late
            · rename_i hl
              rw [hl] at hst
              dsimp only at hst
              refine ⟨?_, late⟩
              unfold vcSeq
              rw [hf]
              dsimp only
              have hzz : ∃ z, zeroOf P t = some z := by
                have : ∀ {l pre : List Nat} {E E' : XE} {S S' : St}, xFlt P G ex cl ops f l pre E S = some (E', S') → ∃ z, zeroOf P t = some z := by
                  intro l
                  induction l with
                  | nil => intro pre E E' S S' h; unfold xFlt at h; obtain ⟨z, hz, _⟩ := xSeq_alloc hf hop hgd hdst h; exact ⟨z, hz⟩
                  | cons i l ih =>
                    intro pre E E' S S' h
                    unfold xFlt at h
                    split at h
                    · obtain ⟨z, hz, _⟩ := xSeq_alloc hf hop hgd hdst h; exact ⟨z, hz⟩
                    · split at h
                      · cases h
                      · split at h
                        · split at h
                          · exact ih h
                          · cases h
                        · cases h
                exact this h0
              obtain ⟨z, hz⟩ := hzz
              have e1 : seqStep P ops pre f of e W (fun e w => vcSeq P ops kn kp (i :: l) (f :: pre) e w) kp = seqOp P ops pre f of e W (fun e w => vcSeq P ops kn kp (i :: l) (f :: pre) e w) kp := by
                unfold seqStep
                rw [hgd]
              rw [e1]
              have hlf : lightB P of = false := by
                unfold lightB
                rw [hop]
                simp only [isSelect, cls, isLoad]
                rw [hdst]
              unfold seqOp
              rw [hlf]
              have e2 : ∀ (k : Value → World → Prop), k (.pointer (some ⟨W.heap.size, 0, none⟩)) (W.alloc (.cells z.cells t)) → vOp P e of W k kp := fun k hk => by
                obtain ⟨dst, op, type, pos, after, guard⟩ := of
                dsimp only at hop
                subst hop
                show vEff P e ⟨dst, .alloc t, type, pos, after, guard⟩ W k kp
                unfold vEff
                dsimp only
                rw [hz]
                exact hk
              refine e2 _ ?_
              dsimp only
              have hb1 : Below W.heap.size W (W.alloc (.cells z.cells t)) := (Below.refl _ W).alloc (Nat.le_refl _) _
              have hS1 := hS.any hb1
              have hsz : (W.alloc (.cells z.cells t)).heap.size = W.heap.size + 1 := by show (W.heap.push _).size = _; exact Array.size_push _
              refine xStills_ok hE.le hS1 ?_ hst fun _ h => h
              have hS2 : Sim P G (fun c => T c ∨ c = W.heap.size) (W.alloc (.cells z.cells t)) (W.alloc (.cells z.cells t)) r S :=
                ⟨fun a cs ha => by
                    obtain ⟨q1, t', fz, q2⟩ := hS.gl a cs ha
                    exact ⟨.inl q1, t', fz, (hS1.bel.block a q1).trans q2⟩,
                  fun c hc => by
                    rcases hc with hc | rfl
                    · have := hS.tb c hc; have := hS.bel.size; omega
                    · omega,
                  ⟨rfl, rfl, rfl, Nat.le_refl _, fun _ _ => rfl⟩, hS1.inj, fun k x y g hy ht => by
                    rcases ht with ht | ht
                    · exact hS1.lo k x y g hy ht
                    · obtain ⟨y', q1, q2⟩ := hS.ok k x g
                      rw [hy] at q1; cases q1
                      have := q2.lt; omega, hS1.ok, hS1.fresh, hS1.srt⟩
              rw [hdst]
              exact xFlt_early hex hcl hf hop hgd hdst hnd hz hS.gl hS.tb hS1.bel alloc_same (hS.nt (Nat.le_refl _)) hfl (fun j hj => by
                rcases List.mem_cons.1 hj with h | h
                · exact .inl h
                · exact .inr h) h0 ⟨hd, by show Env.get ((d, _) :: e) d = _; rw [env_get_cons, Nat.beq_refl], fun n hn => by
                  show match E.get n with | some c => ∃ v, Env.get ((d, _) :: e) n = some v ∧ upV r c = some v | none => Env.get ((d, _) :: e) n = none
                  rw [env_get_cons, beq_ne (Ne.symm hn)]; exact hE n⟩ hS2 hk
          · cases h
        · cases h
end flt
theorem xOldOne_ok {r : Ro} {E : XE} {e : Env} (hE : UE r E e) {ops : List Oper} {o p : Oper} {i : Nat} (h : xOldOne E ops o i = some p) : oldOne e ops o i = p := by
  have key : ∀ {d : Nat} {x : Option Value}, xOldV E ops d i = some x → oldV e ops d i = x := fun {d x} h => by
    unfold xOldV at h
    split at h
    · rename_i hd; unfold oldV; rw [hE.non hd]; cases h; rfl
    · rename_i c hd
      obtain ⟨v, h1, h2⟩ := hE.get hd
      have h3 : Env.get [(d, undef)] d = some undef := by rw [env_get_cons, Nat.beq_refl]
      unfold oldV at h ⊢
      rw [h3] at h
      rw [h1]
      dsimp only at h ⊢
      split at h
      · rename_i ha
        split at ha
        · split at h
          · cases h; cases h2; rfl
          · cases h
        · cases ha
      · rename_i ha
        split at ha
        · cases ha
        · cases h; rfl
  obtain ⟨dst, op, type, pos, after, guard⟩ := o
  unfold xOldOne at h
  unfold oldOne
  dsimp only at h ⊢
  split at h
  · cases h; rfl
  · dsimp only
    split at h
    · split at h
      · rename_i hv; cases h; dsimp only; rw [key hv]
      · rename_i hv; cases h; dsimp only; rw [key hv]
      · cases h
    · split at h
      · rename_i hv; cases h; dsimp only; rw [key hv]
      · rename_i hv; cases h; dsimp only; rw [key hv]
      · cases h
    · rename_i h1 h2
      cases h
      split
      · exact (h1 _ rfl).elim
      · exact (h2 _ rfl).elim
      · rfl
theorem xOldL_ok {r : Ro} {E : XE} {e : Env} (hE : UE r E e) {ops : List Oper} : ∀ {l : List (Oper × Nat)} {m : List Oper}, xOldL E ops l = some m → (l.map fun x => oldOne e ops x.1 x.2) = m
  | [], m, h => by cases h; rfl
  | (o, i) :: l, m, h => by
    unfold xOldL at h
    split at h
    · rename_i p m' h1 h2
      cases h
      rw [List.map_cons, xOldL_ok hE h2, xOldOne_ok hE h1]
    · cases h
theorem xDraw_ok (hex : ExOk P ex) (hcl : CallsOk P G cl) {plan : Plan} {id : Nat} {ops : List Oper} {kn : Env → World → Prop} {kp : List PanicEntry → World → Prop} {E E' : XE} {S S' : St} (h : xDraw P G ex cl plan id ops E S = some (E', S')) {r : Ro} {e : Env} {W : World} (hE : UE r E e) (hS : Sim P G T W0 W r S)
    (hk : ∀ r' e' W', Ext r r' → UE r' E' e' → Sim P G T W0 W' r' S' → kn e' W') : vcDraw P plan id ops e W kn kp := by
  unfold xDraw at h
  unfold vcDraw
  split at h
  · rename_i t L hp
    rw [hp]
    dsimp only
    split at h
    · rename_i h1
      rw [h1]
      dsimp only
      split at h
      · rename_i h2
        unfold vcSeqT
        rw [h2]
        intro W' hb
        exact xSeq_ok hex hcl (fun _ h => h) h (UE.drop hE _) (hS.any hb) hk
      · cases h
    · rename_i h1
      rw [h1]
      dsimp only
      split at h
      · rename_i h9
        rw [h9]
        dsimp only
        split at h
        · rename_i ops' hops
          have e0 : oldOps e ops = ops' := xOldL_ok hE hops
          rw [e0]
          split at h
          · rename_i h2
            unfold vcSeqT
            rw [h2]
            intro W' hb
            exact xSeq_ok hex hcl (fun _ h => h) h (UE.drop hE _) (hS.any hb) hk
          · cases h
        · cases h
      rename_i h9
      rw [h9]
      dsimp only
      split at h
      · rename_i f L' h2
        have e1 := Nat.eq_of_beq_eq_true h2
        subst e1
        split at h
        · rename_i h3
          obtain ⟨h4, h5⟩ := Bool.and_eq_true_iff.1 h3
          show vcFltT P (f :: L') ops e W kn kp
          unfold vcFltT
          dsimp only
          rw [h4]
          intro W' hb
          unfold fltAl at h5
          split at h5
          · rename_i of hf
            split at h5
            · rename_i t d hop hgd hdst
              exact xFlt_ok hex hcl hf hop hgd hdst (fltOk_dst h4 hf hdst) (fltOk_mem h4) h (by rw [XE.get_drop, if_pos ((memB_iff _ _).2 (mem_dsts hdst (List.mem_of_getElem? hf)))]) (UE.drop hE _) (hS.any hb) hk
            · cases h5
          · cases h5
        · cases h
      · cases h
  · cases h
end
end Go.Xv
