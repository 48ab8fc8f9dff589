/- Operations that read or turn the world, in a run whose arguments are known. -/
import Derived.Test.YtmhmlneobbgadaaGreatDoorQl
namespace Go.Xv
open Go Go.RowKit Go.Vc

/-- What is called: a function; the yield of a range's record. -/
inductive Tg where
  | fn (f : FuncId)
  | yl (b : Nat)
/-- A call, as the run does it. -/
abbrev Cl := Tg → List CV → St → Option (CV × St)
noncomputable def upVs (r : Ro) : List CV → Option (List Value)
  | [] => some []
  | c :: cs => match upV r c, upVs r cs with | some v, some l => some (v :: l) | _, _ => none
theorem upVs_ext {r r' : Ro} (h : Ext r r') : ∀ {cs : List CV} {l : List Value}, upVs r cs = some l → upVs r' cs = some l
  | [], _, hc => hc
  | c :: cs, l, hc => by
    unfold upVs at hc ⊢
    split at hc
    · rename_i v m h1 h2; rw [upV_ext h h1, upVs_ext h h2]; exact hc
    · cases hc
theorem upVs_app {r : Ro} : ∀ {cs ds : List CV} {l m : List Value}, upVs r cs = some l → upVs r ds = some m → upVs r (cs ++ ds) = some (l ++ m)
  | [], _, l, _, h, h' => by cases h; exact h'
  | c :: cs, ds, l, m, h, h' => by
    rw [List.cons_append]
    unfold upVs at h ⊢
    split at h
    · rename_i v k h1 h2; cases h; rw [h1, upVs_app h2 h']; rfl
    · cases h
theorem upVs_Q {r : Ro} : ∀ {l : List (Nat × Nat)} {m : List Value}, upQ r l = some m → upVs r (l.map fun p => .p (.o (.p p.1 p.2))) = some m
  | [], _, h => by cases h; rfl
  | (b, off) :: l, m, h => by
    unfold upQ at h
    rw [List.map_cons]
    unfold upVs
    split at h
    · rename_i x m' h1 h2; cases h; rw [upVs_Q h2]; simp only [upV, upP, up1, h1]
    · cases h
structure CallsOk (P : Program) (G : Gl) (cl : Cl) : Prop where
  fn : ∀ f cs S c S', cl (.fn f) cs S = some (c, S') → ∀ T W0 W r vs, Sim P G T W0 W r S → upVs r cs = some vs →
    Gives P f vs.toArray W fun v W' => ∃ r', Ext r r' ∧ upV r' c = some v ∧ Sim P G T W0 W' r' S'
  yl : ∀ b cs S c S', cl (.yl b) cs S = some (c, S') → ∀ T W0 W r vs y, Sim P G T W0 W r S → r b = some y → upVs r cs = some vs →
    Yield P (callSem (.func (.yield y.1) #[] #[]) vs.toArray) W (fun v W' => ∃ r', Ext r r' ∧ upV r' c = some v ∧ Sim P G T W0 W' r' S') fun _ _ => False
/-- Calls of functions without a body: they turn nothing; which function a method of a type is. -/
structure Ex where
  fn : FuncId → List CV → Option CV
  mt : TypeId → String → Option FuncId
structure ExOk (P : Program) (ex : Ex) : Prop where
  fn : ∀ f cs c, ex.fn f cs = some c → callOk P f = false ∧ ∀ r vs, upVs r cs = some vs → ∃ v, upV r c = some v ∧ ∀ W, (callSem (.func (.func f) #[] #[]) vs.toArray).run P W = .ok (.value v) W
  mt : ∀ t name f, ex.mt t name = some f → ∀ (v : Value) (args : Array Value) W, (invokeSem (.iface t v) name args).run P W = .ok (.enter f (#[v] ++ args)) W
  laid : laidOutB P = true
noncomputable def xArgs (E : XE) : List Operand → Option (List CV)
  | [] => some []
  | x :: l => match xo E x, xArgs E l with | some c, some m => some (c :: m) | _, _ => none
theorem xArgs_up {r : Ro} {E : XE} {e : Env} (hE : Le r E e) : ∀ {l : List Operand} {m : List CV}, xArgs E l = some m → upVs r m = some (l.map (rho e))
  | [], _, h => by cases h; rfl
  | x :: l, m, h => by
    unfold xArgs at h
    split at h
    · rename_i c m' h1 h2
      cases h
      unfold upVs
      rw [xo_rho hE h1, xArgs_up hE h2]; rfl
    · cases h
noncomputable def xStoreAt (S : St) (p : Pc) (vs : List C1) : Option St := match p with | .own b off => xStore S b off vs | .ext _ => none
/-- The rest of the operations. -/
noncomputable def xEff2 (P : Program) (ex : Ex) (cl : Cl) (E : XE) (o : Oper) (S : St) : Option (CV × St) :=
  match o.op with
  | .lookup t m key ok => (match xLookup P E S t m key ok with | some c => (match xAs P o.type c with | true => some (c, S) | false => none) | none => none)
  | .mapUpdate t m key v => (match xUpdate P E S t m key v with | some S' => some (ck undef, S') | none => none)
  | .makeMap t none => (match mapTy P t with | some (s, _) => some (.p (.o (.m (next S))), (next S, some (.mp s [])) :: S) | none => none)
  | .range t x => (match P.underlying t, xo E x with | some (.map _ _), some (.p (.o (.k (.map none)))) => some (.p (.o (.p (next S) 0)), (next S, some .it) :: S) | _, _ => none)
  | .next x false => (match xo E x with | some (.p (.o (.p b 0))) => (match getB S b with | some .it => some (.t [.o (.k (.bool false))], S) | _ => none) | _ => none)
  | .makeChan t x => (match natO E x, P.underlying t with
    | some n, some (.chan _ el) => (match P.info? el, kk P o.type with
      | some i, .other => (match Nat.ble (i.bytes * n) 100000000000, Nat.ble n 100000000000 with | true, true => some (.p (.o (.h (next S))), (next S, some (.ch n [])) :: S) | _, _ => none)
      | _, _ => none)
    | _, _ => none)
  | .call c => (match c.callee with
    | .invoke x name => (match xo E x, xArgs E c.args.toList with
      | some (.p (.o (.i b off t))), some cs => (match ex.mt t name with
        | some f => (match cl (.fn f) (.p (.o (.p b off)) :: cs) S with | some (v, S') => (match xAs P o.type v with | true => some (v, S') | false => none) | none => none)
        | none => none)
      | _, _ => none)
    | .value (.tmp t) => (match xo E (.tmp t), xArgs E c.args.toList with
      | some (.p (.o (.y b))), some cs => (match cl (.yl b) cs S with | some (v, S') => (match xAs P o.type v with | true => some (v, S') | false => none) | none => none)
      | _, _ => none)
    | .builtin .append => (match c.args.toList with
      | [x, y] => (match xAppendS P E S c.argTypes x y with | some (v, S') => (match xAs P o.type v with | true => some (v, S') | false => none) | none => none)
      | _ => none)
    | .builtin .len => (match c.args.toList, (c.argTypes[0]?).bind P.underlying with
      | [x], some (.chan _ _) => (match xo E x, kk P o.type with
        | some (.p (.o (.h b))), .int .i64 => (match getB S b with | some (.ch _ buf) => some (ck (.int .i64 (buf.length : Int)), S) | _ => none)
        | _, _ => none)
      | _, _ => none)
    | .builtin .unsafeString => (match c.args.toList with
      | [x, y] => (match xUStr P E S c.argTypes x y with | some (v, S') => (match xAs P o.type v with | true => some (v, S') | false => none) | none => none)
      | _ => none)
    | .builtin .unsafeSliceData => (match c.args.toList with
      | [x] => (match (match xo E x with
        | some (.p (.o (.k (.slice none _ _)))) => some (ck (.pointer none))
        | some (.p (.o (.s b off _ (_ + 1)))) => some (.p (.o (.p b off)))
        | some (.p (.o (.u b off _ (_ + 1)))) => some (.p (.o (.p b off)))
        | _ => none) with
        | some v => (match xAs P o.type v with | true => some (v, S) | false => none)
        | none => none)
      | _ => none)
    | _ => none)
  | _ => none
noncomputable def xEff (P : Program) (G : Gl) (ex : Ex) (cl : Cl) (E : XE) (o : Oper) (S : St) : Option (CV × St) :=
  match o.op with
  | .load t x => (match asPc E x with | some p => (match xLoad P G S t p with | some c => some (c, S) | none => none) | none => none)
  | .alloc t => (match zeroOf P t with | some z => some (.p (.o (.p (next S) 0)), (next S, some (.cl (z.cells.toList.map .k) t)) :: S) | none => none)
  | .box t x => (match xo E x with | some (.p c) => (match xCells c with | some cs => some (.p (.o (.p (next S) 0)), (next S, some (.cl cs t)) :: S) | none => none) | _ => none)
  | .store t x v => (match asPc E x, P.info? t, xo E v with
    | some p, some i, some (.p c) => (match xCells c with
      | some cs => (match Nat.beq cs.length i.size, xStoreAt S p cs with | true, some S' => some (ck undef, S') | _, _ => none)
      | none => none)
    | _, _, _ => none)
  | .buildSlice t n parts => (match P.underlying t with
    | some (.slice el) => (match P.info? el, zeroOf P el, xParts E parts.toList, Nat.ble n 16777216 with
      | some i, some z, some l, true => (match xPlaces P t l, Nat.ble (n * i.size) 16777216 with
        | some q, true => (match xSplice (n * i.size) (match Nat.beq (n * i.size) 0 with | true => [] | false => (zeroRow (n * i.size) z.cells).map .k) q with
          | some cs => some (.p (.o (.s (next S) 0 n n)), (next S, some (.cl cs el)) :: S)
          | none => none)
        | _, _ => none)
      | _, _, _, _ => none)
    | _ => none)
  | .makeSlice t l c => (match xMake P E S t l c with | some (v, S') => (match xAs P o.type v with | true => some (v, S') | false => none) | none => none)
  | .convert src dst x => (match xBytes P E S src dst x with
    | some (v, S') => (match xAs P o.type v with | true => some (v, S') | false => none)
    | none => (match xText P G E S src dst x with | some v => (match xAs P o.type v with | true => some (v, S) | false => none) | none => none))
  | .call c => (match c.callee with
    | .value (.func f) => (match callOk P f, xArgs E c.args.toList with
      | true, some cs => (match cl (.fn f) cs S with | some (v, S') => (match xAs P o.type v with | true => some (v, S') | false => none) | none => none)
      | false, some cs => (match ex.fn f cs with | some v => (match xAs P o.type v with | true => some (v, S) | false => none) | none => none)
      | _, none => none)
    | .value (.tmp t) => (match xo E (.tmp t), xArgs E c.args.toList with
      | some (.p (.o (.k (.func (.func f) a b)))), some cs => (match callOk P f, Nat.beq (a.toList.length + b.toList.length) 0 with
        | true, true => (match cl (.fn f) cs S with | some (v, S') => (match xAs P o.type v with | true => some (v, S') | false => none) | none => none)
        | _, _ => none)
      | some (.p (.o (.y _))), some _ => xEff2 P ex cl E o S
      | some (.p (.o (.f f as bs))), some cs => (match callOk P f with
        | true => (match cl (.fn f) (as.map (fun p => .p (.o (.p p.1 p.2))) ++ cs ++ bs.map fun p => .p (.o (.p p.1 p.2))) S with | some (v, S') => (match xAs P o.type v with | true => some (v, S') | false => none) | none => none)
        | false => none)
      | _, _ => none)
    | .builtin .append => (match c.args.toList with
      | [x, y] => (match xAppend P G E S c.argTypes x y with | some (v, S') => (match xAs P o.type v with | true => some (v, S') | false => none) | none => xEff2 P ex cl E o S)
      | _ => none)
    | _ => xEff2 P ex cl E o S)
  | _ => xEff2 P ex cl E o S
theorem upPs_len {r : Ro} : ∀ {cs : List PV} {l : List Value}, upPs r cs = some l → l.length = cs.length
  | [], l, h => by cases h; rfl
  | c :: cs, l, h => by
    obtain ⟨v, m, rfl, _, h2⟩ := upPs_cons h
    rw [List.length_cons, List.length_cons, upPs_len h2]
theorem run_next_it {P : Program} {w : World} {g : Nat} {a : Nat} {b : Array Nat} {c : Nat} (h : w.heap[g]? = some (.mapIter none a b c)) (ty : TypeId) : (Instr.next (.pointer (some ⟨g, 0, none⟩)) false ty).run P w = .ok (.tuple #[.bool false]) w := by
  simp only [Instr.next, getObj, Sem.run_bind, Sem.run, h, Result.andThen]
  rfl
section
variable {P : Program} {G : Gl} {T : Nat → Prop} {ex : Ex} {cl : Cl}
theorem xEff2_ok (hex : ExOk P ex) (hcl : CallsOk P G cl) {W0 W : World} {r : Ro} {S S' : St} {E : XE} {e : Env} {o : Oper} {c : CV} {k : Value → World → Prop} {kp : List PanicEntry → World → Prop} (hE : Le r E e) (hS : Sim P G T W0 W r S) (h : xEff2 P ex cl E o S = some (c, S')) (hn : cls P o.op ≠ 0)
    (hk : ∀ r' v W', Ext r r' → upV r' c = some v → Sim P G T W0 W' r' S' → k v W') :
    (match cls P o.op with | 0 => vPure P e o.op (fun v => k v W) | 1 => vRead P e o.op o.type W (fun v => k v W) | _ => vEff P e o W k kp) := by
  obtain ⟨dst, op, type, pos, after, guard⟩ := o
  unfold xEff2 at h
  dsimp only at h hn ⊢
  split at h
  · rename_i t m key ok
    split at h
    · rename_i c' hc
      split at h
      · rename_i has
        cases h
        show vRead P e (.lookup t m key ok) type W _
        unfold vRead
        dsimp only
        exact xLookup_ok hex.laid hE hS hc fun v hv => xAs_ok has hv (hk r v W (Ext.refl r) hv hS)
      · cases h
    · cases h
  · rename_i t m key v
    split at h
    · rename_i S1 hx
      cases h
      show vEff P e ⟨dst, .mapUpdate t m key v, type, pos, after, guard⟩ W k kp
      unfold vEff
      dsimp only
      exact xUpdate_ok hex.laid hE hS hx fun W' hS' => hk r undef W' (Ext.refl r) rfl hS'
    · cases h
  · rename_i t
    split at h
    · rename_i s z hm
      cases h
      show vEff P e ⟨dst, .makeMap t none, type, pos, after, guard⟩ W k kp
      unfold vEff
      dsimp only
      obtain ⟨r', hx, hr, hS'⟩ := hS.alloc (x := .mp s []) (o := .map #[] 0) fun r' _ => .mp .nil map_new
      exact hk r' _ _ hx (by simp only [upV, upP, up1, hr]) hS'
    · cases h
  · rename_i t x
    split at h
    · rename_i kt et ht hx
      cases h
      show vEff P e ⟨dst, .range t x, type, pos, after, guard⟩ W k kp
      unfold vEff
      dsimp only
      rw [← Option.some.inj (xo_rho hE hx)]
      obtain ⟨r', hx, hr, hS'⟩ := hS.alloc (x := .it) (o := .mapIter none 0 #[] 0) fun r' _ => .it alloc_same
      exact ⟨_, _, run_range_nilMap W t kt et ht, _, rfl, hk r' _ _ hx (by simp only [upV, upP, up1, hr]) hS'⟩
    · cases h
  · rename_i x
    split at h
    · rename_i b hx
      split at h
      · rename_i hg
        cases h
        show vEff P e ⟨dst, .next x false, type, pos, after, guard⟩ W k kp
        unfold vEff
        dsimp only
        obtain ⟨a, ha, hu⟩ := up_p (xo_rho hE hx)
        obtain ⟨y, e1, e2⟩ := hS.ok _ _ hg
        simp only [upPc, e1] at hu
        cases hu
        cases e2 with
        | it g1 =>
          rw [ha]
          exact ⟨_, _, run_next_it g1 type, .inl ⟨rfl, hk r _ W (Ext.refl r) rfl hS⟩⟩
      · cases h
    · cases h
  · rename_i t x
    split at h
    · rename_i n d el hn' ht
      split at h
      · rename_i i hi hkk
        split at h
        · rename_i b1 b2
          cases h
          have b1 := Nat.le_of_ble_eq_true b1
          have b2 := Nat.le_of_ble_eq_true b2
          obtain ⟨ik, hx⟩ := natO_rho hE hn'
          show vEff P e ⟨dst, .makeChan t x, type, pos, after, guard⟩ W k kp
          unfold vEff
          dsimp only
          obtain ⟨r', hxt, hr, hS'⟩ := hS.alloc (x := .ch n []) (o := .chan n #[] false 0 0 false) fun r' _ => .ch (vs := []) rfl alloc_same
          have hmax : IntKind.i64.max = 9223372036854775807 := by kernel_rfl
          have hb1 : ¬ ((i.bytes : Int) * (n : Int) > 2 ^ 48 - 112) := by
            have h2 : ((i.bytes * n : Nat) : Int) ≤ 100000000000 := by omega
            rw [Int.natCast_mul] at h2
            omega
          have hrun : (genSem e ⟨dst, .makeChan t x, type, pos, after, guard⟩).run P W = .ok (.value (.chan (some W.heap.size))) (W.alloc (.chan n #[] false 0 0 false)) := by
            have h0 : ¬ ((n : Int) < 0) := by omega
            have h1 : ¬ ((n : Int) > IntKind.i64.max) := by rw [hmax]; omega
            show (execOp (rho e) ⟨dst, .makeChan t x, type, pos, after, guard⟩).run P W = _
            simp only [execOp, Instr.makeChan, hx, Go.asInt, asIntOf, Sem.run_bind, Sem.run_pure, Result.andThen_ok, run_underlying' ht, typeInfo, run_program, hi]
            rw [if_neg (by rintro (h | h | h); exact h0 h; exact h1 h; exact hb1 h)]
            simp [newObj, Sem.run]
          refine ⟨_, hrun, ?_⟩
          show As P type _ fun v => k v _
          have key := hk r' (.chan (some W.heap.size)) _ hxt (by simp only [upV, upP, up1, hr]) hS'
          unfold As As1
          rw [hkk]
          exact key
        · cases h
      · cases h
    · cases h
  · rename_i c'
    obtain ⟨callee, args, argTypes⟩ := c'
    dsimp only at h hn ⊢
    split at h
    · rename_i x name
      split at h
      · rename_i b off t cs hx hargs
        split at h
        · rename_i f hf
          split at h
          · rename_i v S1 hc
            split at h
            · rename_i has
              cases h
              show Yield P (invokeSem (rho e x) name (args.map (rho e))) W (fun v w => As P type v fun v => k v w) kp
              obtain ⟨y, e1, e2⟩ := up_i (xo_rho hE hx)
              rw [e2]
              have hu : upVs r (.p (.o (.p b off)) :: cs) = some (.pointer (some ⟨y.1, off, none⟩) :: args.toList.map (rho e)) := by
                unfold upVs
                rw [xArgs_up hE hargs]
                simp only [upV, upP, up1, e1]
              have hg := hcl.fn f _ S _ _ hc T W0 W r _ hS hu
              have e3 : (Value.pointer (some ⟨y.1, off, none⟩) :: args.toList.map (rho e)).toArray = #[.pointer (some ⟨y.1, off, none⟩)] ++ args.map (rho e) := by rw [← Array.toList_inj]; simp
              rw [e3] at hg
              refine ⟨_, hex.mt t name f hf _ _ W, ?_⟩
              exact Call.of hg fun v W' ⟨r', hx, hv, hS'⟩ => xAs_ok has hv (hk r' v W' hx hv hS')
            · cases h
          · cases h
        · cases h
      · cases h
    · rename_i t
      split at h
      · rename_i b cs hx hargs
        split at h
        · rename_i v S1 hc
          split at h
          · rename_i has
            cases h
            show Yield P (callSem (rho e (.tmp t)) (args.map (rho e))) W (fun v w => As P type v fun v => k v w) kp
            obtain ⟨y, e1, e2⟩ := up_y (xo_rho hE hx)
            rw [e2]
            have hg := hcl.yl b _ S _ _ hc T W0 W r _ y hS e1 (xArgs_up hE hargs)
            have e3 : (args.toList.map (rho e)).toArray = args.map (rho e) := by rw [← Array.toList_map, Array.toArray_toList]
            rw [e3] at hg
            exact hg.mono (fun v W' ⟨r', hx, hv, hS'⟩ => xAs_ok has hv (hk r' v W' hx hv hS')) fun _ _ h => h.elim
          · cases h
        · cases h
      · cases h
    · split at h
      · rename_i x y hargs
        split at h
        · rename_i v S1 hc
          split at h
          · rename_i has
            cases h
            show vEff P e ⟨dst, .call ⟨.builtin .append, args, argTypes⟩, type, pos, after, guard⟩ W k kp
            unfold vEff
            dsimp only
            have e1 : args.map (rho e) = #[rho e x, rho e y] := by rw [← Array.toList_inj, Array.toList_map, hargs]; rfl
            rw [e1]
            exact xAppendS_ok hE hS hc fun r' v W' hx hv hS' => xAs_ok has hv (hk r' v W' hx hv hS')
          · cases h
        · cases h
      · cases h
    · split at h
      · rename_i x d el hargs ht
        split at h
        · rename_i b hx hkk
          split at h
          · rename_i cap buf hg
            cases h
            obtain ⟨y, e1, e2⟩ := up_h (xo_rho hE hx)
            obtain ⟨y', e3, e4⟩ := hS.ok _ _ hg
            rw [e1] at e3; cases e3
            cases e4 with
            | ch g1 g2 =>
              rename_i vs q1 q2
              cases h0 : argTypes[0]? with
              | none => rw [h0] at ht; cases ht
              | some t0 =>
                rw [h0] at ht
                simp only [Option.bind_some] at ht
                have hc : cls P (.call ⟨.builtin .len, args, argTypes⟩) = 1 := by simp only [cls, h0, isMp, ht]
                rw [hc]
                show vRead P e (.call ⟨.builtin .len, args, argTypes⟩) type W _
                unfold vRead
                dsimp only
                have ea : args.map (rho e) = #[.chan (some y.1)] := by rw [← Array.toList_inj, Array.toList_map, hargs, List.map_cons, e2]; rfl
                have hlen : vs.length = buf.length := upPs_len g1
                refine ⟨.int .i64 (buf.length : Int), fun w' hb => ?_, ?_⟩
                · have h1 : w'.heap[y.1]? = some (.chan cap vs.toArray false q1 q2 false) := (hb.block _ (heap_lt g2)).trans g2
                  rw [ea]
                  simp [Builtin.len_, h0, run_underlying' ht, getObj, Sem.run, h1, goInt, hlen]
                · unfold As As1
                  rw [hkk]
                  exact ⟨_, rfl, hk r _ W (Ext.refl r) rfl hS⟩
          · cases h
        · cases h
      · cases h
    · split at h
      · rename_i x y hargs
        split at h
        · rename_i v S1 hc
          split at h
          · rename_i has
            cases h
            show vEff P e ⟨dst, .call ⟨.builtin .unsafeString, args, argTypes⟩, type, pos, after, guard⟩ W k kp
            unfold vEff
            dsimp only
            have e1 : args.map (rho e) = #[rho e x, rho e y] := by rw [← Array.toList_inj, Array.toList_map, hargs]; rfl
            obtain ⟨v', W', hrun, hv, hS'⟩ := xUStr_ok (ty := type) hE hS hc
            have key : As P type v' fun v => k v W' := xAs_ok has hv (hk r v' W' (Ext.refl r) hv hS')
            refine ⟨.ok (.value v') W', ?_, key⟩
            show (execOp (rho e) ⟨dst, .call ⟨.builtin .unsafeString, args, argTypes⟩, type, pos, after, guard⟩).run P W = _
            simp only [execOp, resolve, Sem.run_bind, Sem.run_pure, Result.andThen_ok, invoke, builtin, e1, hrun]
          · cases h
        · cases h
      · cases h
    · split at h
      · rename_i x hargs
        split at h
        · rename_i v hc
          split at h
          · rename_i has
            cases h
            show vEff P e ⟨dst, .call ⟨.builtin .unsafeSliceData, args, argTypes⟩, type, pos, after, guard⟩ W k kp
            unfold vEff
            dsimp only
            have e1 : args.map (rho e) = #[rho e x] := by rw [← Array.toList_inj, Array.toList_map, hargs]; rfl
            have key : ∃ v', (Builtin.unsafeSliceData_ argTypes type #[rho e x]).run P W = .ok v' W ∧ upV r c = some v' := by
              split at hc
              · rename_i hx
                cases hc
                rw [← Option.some.inj (xo_rho hE hx)]
                exact ⟨_, Lib.run_unsafeSliceData_nil W argTypes type _ _, rfl⟩
              · rename_i b off n m hx
                cases hc
                obtain ⟨a, ha, hu⟩ := up_s (xo_rho hE hx)
                rw [ha]
                exact ⟨_, Lib.run_unsafeSliceData_row W argTypes type a _ _ (by omega), up_c hu⟩
              · rename_i b off i n hx
                cases hc
                obtain ⟨y, h1, h2, h3⟩ := up_u (xo_rho hE hx)
                rw [h3]
                exact ⟨_, Lib.run_unsafeSliceData_row W argTypes type _ _ _ (by omega), by simp only [upV, upP, up1, h1]⟩
              · cases hc
            obtain ⟨v', hrun, hv⟩ := key
            have key : As P type v' fun v => k v W := xAs_ok has hv (hk r v' W (Ext.refl r) hv hS)
            refine ⟨.ok (.value v') W, ?_, key⟩
            show (execOp (rho e) ⟨dst, .call ⟨.builtin .unsafeSliceData, args, argTypes⟩, type, pos, after, guard⟩).run P W = _
            simp only [execOp, resolve, Sem.run_bind, Sem.run_pure, Result.andThen_ok, invoke, builtin, e1, hrun]
          · cases h
        · cases h
      · cases h
    · cases h
  · cases h
end
/-- One operation. -/
noncomputable def xOp (P : Program) (G : Gl) (ex : Ex) (cl : Cl) (E : XE) (o : Oper) (S : St) : Option (CV × St) :=
  match isSelect o.op, xKnown E o.op.operands.toList with
  | false, true => (match cls P o.op with
    | 0 => (match xPure P E o.op with | some c => some (c, S) | none => none)
    | _ => xEff P G ex cl E o S)
  | _, _ => none
theorem xOp_ok {P : Program} {G : Gl} {T : Nat → Prop} {ex : Ex} {cl : Cl} (hex : ExOk P ex) (hcl : CallsOk P G cl) {W0 W : World} {r : Ro} {S S' : St} {E : XE} {e : Env} {o : Oper} {c : CV} {k : Value → World → Prop} {kp : List PanicEntry → World → Prop} (hE : Le r E e) (hS : Sim P G T W0 W r S) (h : xOp P G ex cl E o S = some (c, S'))
    (hk : ∀ r' v W', Ext r r' → upV r' c = some v → Sim P G T W0 W' r' S' → k v W') : vOp P e o W k kp := by
  unfold xOp at h
  unfold vOp
  split at h
  · rename_i h1 h2
    rw [h1, xKnown_up hE h2]
    try dsimp only
    split at h
    · rename_i h3
      rw [h3]
      try dsimp only
      split at h
      · rename_i c' hc
        cases h
        exact xPure_ok hE hc fun v hv => hk r v W (Ext.refl r) hv hS
      · cases h
    · rename_i n hn
      obtain ⟨dst, op, type, pos, after, guard⟩ := o
      unfold xEff at h
      dsimp only at h h1 hn ⊢
      split at h
      · rename_i t x
        split at h
        · rename_i p hp
          obtain ⟨a, ha, hu⟩ := asPc_rho hE hp
          split at h
          · rename_i c' hc
            cases h
            show vRead P e (.load t x) type W _
            unfold vRead
            dsimp only
            rw [ha]
            exact hS.load hu hc fun v hv => hk r v W (Ext.refl r) hv hS
          · cases h
        · cases h
      · rename_i t
        split at h
        · rename_i z hz
          cases h
          show vEff P e ⟨dst, .alloc t, type, pos, after, guard⟩ W k kp
          unfold vEff
          dsimp only
          rw [hz]
          dsimp only
          obtain ⟨r', hx, hr, hS'⟩ := hS.new (cs := z.cells.toList.map .k) t (upL_k _)
          exact hk r' _ _ hx (by simp only [upV, upP, up1, hr]) (by simpa using hS')
        · cases h
      · rename_i t x
        split at h
        · rename_i c' hx'
          split at h
          · rename_i cs hc
            cases h
            have hu : upP r c' = some (rho e x) := xo_rho hE hx'
            obtain ⟨g1, _⟩ := xCells_up hc hu
            show vEff P e ⟨dst, .box t x, type, pos, after, guard⟩ W k kp
            unfold vEff
            dsimp only
            obtain ⟨r', hx, hr, hS'⟩ := hS.new t g1
            exact hk r' _ _ hx (by simp only [upV, upP, up1, hr]) (by simpa using hS')
          · cases h
        · cases h
      · rename_i t x v
        split at h
        · rename_i p i c' hp hi hv
          obtain ⟨a, ha, hu⟩ := asPc_rho hE hp
          have hu' : upP r c' = some (rho e v) := xo_rho hE hv
          split at h
          · rename_i cs hc
            obtain ⟨g1, g2⟩ := xCells_up hc hu'
            split at h
            · rename_i S1 hb hs
              cases h
              show vEff P e ⟨dst, .store t x v, type, pos, after, guard⟩ W k kp
              unfold vEff
              dsimp only
              rw [ha]
              dsimp only
              rw [hi]
              dsimp only
              refine ⟨by rw [← Array.length_toList, upL_len g1]; exact Nat.eq_of_beq_eq_true hb, ?_⟩
              cases p with
              | ext a' => cases hs
              | own b off => exact hS.store hu hs g1 g2 fun W' hS' => hk r undef W' (Ext.refl r) rfl hS'
            · cases h
          · cases h
        · cases h
      · rename_i t n' parts
        split at h
        · rename_i el ht
          split at h
          · rename_i i z l hi hz hl _
            split at h
            · rename_i q hq hle
              split at h
              · rename_i cs hs
                cases h
                obtain ⟨ps, hps, hu⟩ := xPlaces_ok (xParts_ok hE hl) hq
                show vEff P e ⟨dst, .buildSlice t n' parts, type, pos, after, guard⟩ W k kp
                unfold vEff
                dsimp only
                rw [ht]
                dsimp only
                rw [hi]
                dsimp only
                rw [hz]
                dsimp only
                rw [hps]
                dsimp only
                rw [hle]
                dsimp only
                have hz0 : upL r (match Nat.beq (n' * i.size) 0 with | true => [] | false => (zeroRow (n' * i.size) z.cells).map .k) = some (match Nat.beq (n' * i.size) 0 with | true => [] | false => zeroRow (n' * i.size) z.cells) := by
                  split
                  · rfl
                  · exact upL_k _
                obtain ⟨g1, g2⟩ := xSplice_ok hu hz0 hs
                refine ⟨g1, ?_⟩
                obtain ⟨r', hx, hr, hS'⟩ := hS.new el g2
                exact hk r' _ _ hx (by simp only [upV, upP, up1, hr]) hS'
              · cases h
            · cases h
          · cases h
        · cases h
      · rename_i t l c'
        split at h
        · rename_i v S1 hc
          split at h
          · rename_i has
            cases h
            show vEff P e ⟨dst, .makeSlice t l c', type, pos, after, guard⟩ W k kp
            unfold vEff
            dsimp only
            exact xMake_ok hE hS hc fun r' v W' hx hv hS' => xAs_ok has hv (hk r' v W' hx hv hS')
          · cases h
        · cases h
      · rename_i src dst' x
        split at h
        · rename_i v S1 hc
          obtain ⟨hcls, hrun⟩ := xBytes_ok hE hS hc
          split at h
          · rename_i has
            cases h
            rw [hcls]
            show vEff P e ⟨dst, .convert src dst' x, type, pos, after, guard⟩ W k kp
            unfold vEff
            dsimp only
            exact hrun fun r' v W' hx hv hS' => xAs_ok has hv (hk r' v W' hx hv hS')
          · cases h
        · split at h
          · rename_i v hc
            obtain ⟨hcls, hrun⟩ := xText_ok hE hS hc
            split at h
            · rename_i has
              cases h
              rw [hcls]
              show vRead P e (.convert src dst' x) type W _
              unfold vRead
              dsimp only
              exact hrun fun v hv => xAs_ok has hv (hk r v W (Ext.refl r) hv hS)
            · cases h
          · cases h
      · rename_i c'
        obtain ⟨callee, args, argTypes⟩ := c'
        dsimp only at h
        split at h
        · rename_i f
          split at h
          · rename_i cs hf hargs
            split at h
            · rename_i v S1 hc
              split at h
              · rename_i has
                cases h
                show vEff P e ⟨dst, .call ⟨.value (.func f), args, argTypes⟩, type, pos, after, guard⟩ W k kp
                unfold vEff
                dsimp only
                rw [hf]
                dsimp only
                have hu := xArgs_up hE hargs
                have hg := hcl.fn f cs S _ _ hc T W0 W r _ hS hu
                have e1 : (args.toList.map (rho e)).toArray = args.map (rho e) := by rw [← Array.toList_map, Array.toArray_toList]
                rw [e1] at hg
                refine Call.of hg fun v W' ⟨r', hx, hv, hS'⟩ => ?_
                exact xAs_ok has hv (hk r' v W' hx hv hS')
              · cases h
            · cases h
          · rename_i cs hf hargs
            split at h
            · rename_i v hc
              split at h
              · rename_i has
                cases h
                show vEff P e ⟨dst, .call ⟨.value (.func f), args, argTypes⟩, type, pos, after, guard⟩ W k kp
                unfold vEff
                dsimp only
                rw [hf]
                dsimp only
                obtain ⟨_, hv⟩ := hex.fn f cs _ hc
                obtain ⟨w, q1, q2⟩ := hv r _ (xArgs_up hE hargs)
                have e1 : (args.toList.map (rho e)).toArray = args.map (rho e) := by rw [← Array.toList_map, Array.toArray_toList]
                rw [e1] at q2
                have key : As P type w fun v => k v W := xAs_ok has q1 (hk r w W (Ext.refl r) q1 hS)
                exact ⟨_, q2 W, key⟩
              · cases h
            · cases h
          · cases h
        · rename_i t
          split at h
          · rename_i f a b cs hf hargs
            split at h
            · rename_i hok hab
              split at h
              · rename_i v S1 hc
                split at h
                · rename_i has
                  cases h
                  have ha : a = #[] := by
                    have := Nat.eq_of_beq_eq_true hab
                    exact Array.toList_inj.1 (List.eq_nil_of_length_eq_zero (by omega))
                  have hb : b = #[] := by
                    have := Nat.eq_of_beq_eq_true hab
                    exact Array.toList_inj.1 (List.eq_nil_of_length_eq_zero (by omega))
                  subst ha hb
                  show Yield P (callSem (rho e (.tmp t)) (args.map (rho e))) W (fun v w => As P type v fun v => k v w) kp
                  have hf' := xo_rho hE hf
                  rw [← Option.some.inj hf']
                  have hg := hcl.fn f cs S _ _ hc T W0 W r _ hS (xArgs_up hE hargs)
                  have e1 : (args.toList.map (rho e)).toArray = args.map (rho e) := by rw [← Array.toList_map, Array.toArray_toList]
                  rw [e1] at hg
                  have hrun := callSem_func (lb := #[]) (rb := #[]) (args := args.map (rho e)) hok W
                  rw [Array.empty_append, Array.append_empty] at hrun
                  refine ⟨_, hrun, ?_⟩
                  exact Call.of hg fun v W' ⟨r', hx, hv, hS'⟩ => xAs_ok has hv (hk r' v W' hx hv hS')
                · cases h
              · cases h
            · cases h
          · exact xEff2_ok hex hcl hE hS h hn hk
          · rename_i f as bs cs hf hargs
            split at h
            · rename_i hok
              split at h
              · rename_i v S1 hc
                split at h
                · rename_i has
                  cases h
                  show Yield P (callSem (rho e (.tmp t)) (args.map (rho e))) W (fun v w => As P type v fun v => k v w) kp
                  obtain ⟨a, b, ha, hb, hf'⟩ := up_f (xo_rho hE hf)
                  rw [hf']
                  have hu : upVs r (as.map (fun p => CV.p (.o (.p p.1 p.2))) ++ cs ++ bs.map fun p => .p (.o (.p p.1 p.2))) = some (a ++ args.toList.map (rho e) ++ b) := upVs_app (upVs_app (upVs_Q ha) (xArgs_up hE hargs)) (upVs_Q hb)
                  have hg := hcl.fn f _ S _ _ hc T W0 W r _ hS hu
                  have e1 : (a ++ args.toList.map (rho e) ++ b).toArray = a.toArray ++ args.map (rho e) ++ b.toArray := by rw [← Array.toList_inj]; simp
                  rw [e1] at hg
                  have hrun := callSem_func (lb := a.toArray) (rb := b.toArray) (args := args.map (rho e)) hok W
                  refine ⟨_, hrun, ?_⟩
                  exact Call.of hg fun v W' ⟨r', hx, hv, hS'⟩ => xAs_ok has hv (hk r' v W' hx hv hS')
                · cases h
              · cases h
            · cases h
          · cases h
        · split at h
          · rename_i x y hargs
            split at h
            · rename_i v S1 hc
              split at h
              · rename_i has
                cases h
                show vEff P e ⟨dst, .call ⟨.builtin .append, args, argTypes⟩, type, pos, after, guard⟩ W k kp
                unfold vEff
                dsimp only
                have e1 : args.map (rho e) = #[rho e x, rho e y] := by rw [← Array.toList_inj, Array.toList_map, hargs]; rfl
                rw [e1]
                exact xAppend_ok hE hS hc fun r' v W' hx hv hS' => xAs_ok has hv (hk r' v W' hx hv hS')
              · cases h
            · exact xEff2_ok hex hcl hE hS h hn hk
          · cases h
        · exact xEff2_ok hex hcl hE hS h hn hk
      · exact xEff2_ok hex hcl hE hS h hn hk
  · cases h
end Go.Xv
