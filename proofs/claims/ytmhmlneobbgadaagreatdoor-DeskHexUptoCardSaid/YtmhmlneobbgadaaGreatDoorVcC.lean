/- The verification condition of one operation: those that read, those that turn the world, calls; and that it is enough for the operation's run. -/
import Derived.Test.YtmhmlneobbgadaaGreatDoorVcB
import Derived.Laws.World
import Derived.CallsIn
import Derived.OrdersIn
import Derived.TacticsIn
import Derived.RangeFuncRecord
namespace Go.Vc
open Go Go.RowKit

/-! ### What an operation yields -/
def YieldR (P : Program) (r : Result Next) (k : Value → World → Prop) (kp : List PanicEntry → World → Prop) : Prop :=
  match r with
  | .ok (.value v) w' => k v w'
  | .ok .skip w' => k undef w'
  | .ok (.enter f args) w' => Calls P f args w' fun e w'' => match e with | .returned v => k v w'' | .panicked ch => kp ch w'' | .outgrown => False
  | .ok (.round l f tmps assign body) w' => RoundIn Fence.wide 0 P l f tmps assign body w' fun e w'' => match e with | .returned v => k v w'' | .panicked ch => kp ch w'' | .outgrown => False
  | .halt (.panic v) w' => kp [{ v, recovered := false }] w'
  | _ => False
def Yield (P : Program) (s : Sem Next) (w : World) (k : Value → World → Prop) (kp : List PanicEntry → World → Prop) : Prop := ∃ r, s.run P w = r ∧ YieldR P r k kp
theorem Yield_iff {P : Program} {s : Sem Next} {w : World} {k : Value → World → Prop} {kp : List PanicEntry → World → Prop} : Yield P s w k kp ↔ YieldR P (s.run P w) k kp :=
  ⟨fun ⟨_, h, hk⟩ => by rw [h]; exact hk, fun h => ⟨_, rfl, h⟩⟩
/-- A call: what it returns, or how it panics. -/
def Call (P : Program) (f : FuncId) (args : Array Value) (w : World) (k : Value → World → Prop) (kp : List PanicEntry → World → Prop) : Prop :=
  Calls P f args w fun e w'' => match e with | .returned v => k v w'' | .panicked ch => kp ch w'' | .outgrown => False
/-- A call that returns. -/
def Gives (P : Program) (f : FuncId) (args : Array Value) (w : World) (Q : Value → World → Prop) : Prop :=
  Calls P f args w fun e w' => ∃ v, e = .returned v ∧ Q v w'
theorem Call.of {P : Program} {f : FuncId} {args : Array Value} {w : World} {Q k : Value → World → Prop} {kp : List PanicEntry → World → Prop}
    (h : Gives P f args w Q) (hk : ∀ v w', Q v w' → k v w') : Call P f args w k kp :=
  Calls.mono h fun e w' ⟨v, he, hq⟩ => by subst he; exact hk v w' hq
theorem Gives.mono {P : Program} {f : FuncId} {args : Array Value} {w : World} {Q Q' : Value → World → Prop} (h : Gives P f args w Q) (hq : ∀ v w', Q v w' → Q' v w') : Gives P f args w Q' :=
  Calls.mono h fun _ _ ⟨v, he, hv⟩ => ⟨v, he, hq _ _ hv⟩
def callOk (P : Program) (f : FuncId) : Bool :=
  match P.funcs[f]? with
  | some fn => (match fn.body with | some _ => !(fn.name == "runtime.NumGoroutine") | none => false)
  | none => false

/-- A call of a function value. -/
def callSem (f : Value) (args : Array Value) : Sem Next := do let d ← Deferred.ofValue f args; invoke d.target d.args
/-- A call of a method of an interface value. -/
def invokeSem (r : Value) (name : String) (args : Array Value) : Sem Next := invoke (.fn (.method name) #[]) (#[r] ++ args)
def chanSem (t : TypeId) (x : Value) : Sem Next := do pure (.value (← Instr.makeChan t x))
def panicSem (x : Value) : Sem Next := do pure (.value (← Instr.panic x))
def appSem (ts : Array TypeId) (ty : TypeId) (args : Array Value) : Sem Next := do pure (.value (← Builtin.append_ ts ty args))
def genSem (e : Env) (o : Oper) : Sem Next :=
  match o.op with
  | .call c => (match c.callee with
    | .value f => callSem (rho e f) (c.args.map (rho e))
    | .invoke r name => invokeSem (rho e r) name (c.args.map (rho e))
    | .builtin .append => appSem c.argTypes o.type (c.args.map (rho e))
    | .builtin _ => execOp (rho e) o)
  | .panic x => panicSem (rho e x)
  | _ => execOp (rho e) o
theorem genSem_eq (e : Env) (o : Oper) : genSem e o = execOp (rho e) o := by
  obtain ⟨dst, op, type, pos, after, guard⟩ := o
  cases op <;> try rfl
  case call c =>
    obtain ⟨callee, args, argTypes⟩ := c
    cases callee with
    | builtin b => cases b <;> rfl
    | value f => rfl
    | invoke r n => rfl

/-! ### Operations that read -/
def Ld1 (w : World) (a : Addr) (k : Value → Prop) : Prop := ∃ u, w.cell? a = some u ∧ k u
def LdNC (w : World) (a : Addr) (n : Nat) (k : List Value → Prop) : Prop := ∃ cs : List Value, cs.length = n ∧ Row w a cs ∧ k cs
def LdN (w : World) (a : Addr) (n : Nat) (k : Value → Prop) : Prop := ∃ cs : List Value, cs.length = n ∧ Row w a cs ∧ k (.agg cs.toArray)
def isSl (P : Program) (t : TypeId) : Bool := match P.underlying t with | some (.slice _) => true | _ => false
def isMp (P : Program) (t : TypeId) : Bool := match P.underlying t with | some (.map _ _) => true | some (.chan _ _) => true | _ => false
def cls (P : Program) : Op → Nat
  | .load _ _ | .lookup _ _ _ _ | .typeAssert _ _ _ _ => 1
  | .convert src dst _ => (match isSl P src with | true => 1 | false => (match isSl P dst with | true => 2 | false => 0))
  | .call c => (match c.callee with
    | .builtin .len => (match (c.argTypes[0]?) with | some t => (match isMp P t with | true => 1 | false => 0) | none => 0)
    | .builtin .max => 0
    | .builtin .min => 0
    | _ => 2)
  | .move _ | .assign _ | .pick _ _ _ | .nilCheck _ | .fieldAddr _ _ _ | .field _ _ _ | .indexAddr _ _ _ | .index _ _ _ | .binOp _ _ _ _ _ | .unOp _ _ _
  | .makeInterface _ _ | .makeFunc _ _ _ | .build _ _ | .slice _ _ _ _ _ | .extract _ _ => 0
  | _ => 2
def vRead (P : Program) (e : Env) (op : Op) (rt : TypeId) (w : World) (k : Value → Prop) : Prop :=
  match op with
  | .load t x =>
    (match rho e x with
     | .pointer (some a) =>
       (match P.underlying t with
        | some (.struct _) => LdN w a (P.cellsOf t) k
        | some (.array _ _) => LdN w a (P.cellsOf t) k
        | some _ => Ld1 w a fun u => As1 P t u k
        | none => False)
     | _ => False)
  | .lookup t m key ok => RunR P (Instr.lookup t (rho e m) (rho e key) ok) w fun u => As P rt u k
  | .typeAssert x xt t ok => RunR P (Instr.typeAssert (rho e x) xt t ok) w fun u => As P rt u k
  | .convert src dst x => RunR P (convert src dst (rho e x)) w fun u => As P rt u k
  | .call c =>
    (match c.callee with
     | .builtin .len => RunR P (Builtin.len_ c.argTypes rt (c.args.map (rho e))) w fun u => As P rt u k
     | _ => False)
  | _ => False
theorem Row.below {w w' : World} {a : Addr} {cs : List Value} (h : Row w a cs) (hb : Below w.heap.size w w') : Row w' a cs := fun i u hi => by
  have := h i u hi
  rw [hb.cell (World.block_lt_of_cell? w _ this)]
  exact this
theorem run_loadCellsFrom {P : Program} {w : World} {a : Addr} : ∀ (cs : List Value) (i : Nat) (acc : Array Value), (∀ j u, cs[j]? = some u → w.cell? (a.add (i + j)) = some u) →
    (loadCellsFrom a i cs.length acc).run P w = .ok (acc ++ cs.toArray) w
  | [], i, acc, _ => by simp [loadCellsFrom]
  | c :: cs, i, acc, h => by
    have h0 : w.cell? (a.add i) = some c := by have := h 0 c rfl; simpa using this
    simp only [List.length_cons, loadCellsFrom, Sem.run_bind]
    have hl : (load (a.add i)).run P w = .ok c w := by simp [load, Sem.run, h0]
    rw [hl, Result.andThen_ok, run_loadCellsFrom cs (i + 1) (acc.push c) (fun j u hj => by have := h (j + 1) u (by simpa using hj); rwa [show i + 1 + j = i + (j + 1) by omega])]
    simp
theorem run_loadCells {P : Program} {w : World} {a : Addr} {cs : List Value} (h : Row w a cs) : (loadCells a cs.length).run P w = .ok cs.toArray w := by
  unfold loadCells
  rw [run_loadCellsFrom cs 0 #[] (fun j u hj => by simpa using h j u hj)]
  simp
theorem vRead_run {P : Program} {e : Env} {o : Oper} {w : World} {k : Value → Prop} (h : vRead P e o.op o.type w k) :
    ∃ v, (∀ w', Below w.heap.size w w' → (execOp (rho e) o).run P w' = .ok (.value v) w') ∧ k v := by
  obtain ⟨dst, op, type, pos, after, guard⟩ := o
  simp only at h
  cases op <;> simp only [vRead] at h
  case load t x =>
    split at h
    · rename_i a hx
      have row : ∀ d, P.underlying t = some d → aggSize P t = some (P.cellsOf t) → LdN w a (P.cellsOf t) k → 
          ∃ v, (∀ w', Below w.heap.size w w' → (execOp (rho e) { dst, op := .load t x, type, pos, after, guard }).run P w' = .ok (.value v) w') ∧ k v := by
        intro d ht hag h
        obtain ⟨cs, hlen, hrow, hk⟩ := h
        refine ⟨_, fun w' hb => ?_, hk⟩
        have h1 := run_loadCells (P := P) (hrow.below hb)
        rw [hlen] at h1
        simp [execOp, hx, Instr.loadAt, Instr.sureAddr, loadVar, run_isAgg ht, hag, run_sizeOf' ht, h1]
      split at h
      · rename_i d ht; exact row _ ht (by simp [aggSize, ht]) h
      · rename_i n el ht; exact row _ ht (by simp [aggSize, ht]) h
      · rename_i d hn1 hn2 ht
        obtain ⟨u, hu, h⟩ := h
        refine ⟨u, fun w' hb => ?_, h.out⟩
        have hu' : w'.cell? a = some u := by rw [hb.cell (World.block_lt_of_cell? w _ hu)]; exact hu
        have hag : aggSize P t = none := by
          unfold aggSize
          rw [ht]
          split
          · rename_i heq; exact absurd (Option.some.inj heq) (hn1 _)
          · rename_i heq; exact absurd (Option.some.inj heq) (hn2 _ _)
          · rfl
        simp [execOp, hx, Instr.loadAt, Instr.sureAddr, loadVar, run_isAgg ht, hag, hu']
      · exact h.elim
    · exact h.elim
  case lookup t m key ok =>
    obtain ⟨u, hu, h⟩ := h
    exact ⟨u, fun w' hb => by simp only [execOp, Sem.run_bind, hu w' hb]; rfl, h.out⟩
  case typeAssert x xt t ok =>
    obtain ⟨u, hu, h⟩ := h
    exact ⟨u, fun w' hb => by simp only [execOp, Sem.run_bind, hu w' hb]; rfl, h.out⟩
  case convert src dst' x =>
    obtain ⟨u, hu, h⟩ := h
    exact ⟨u, fun w' hb => by simp only [execOp, Sem.run_bind, hu w' hb]; rfl, h.out⟩
  case call c =>
    obtain ⟨callee, args, argTypes⟩ := c
    split at h
    · rename_i hc
      simp only at hc
      subst hc
      obtain ⟨u, hu, h⟩ := h
      refine ⟨u, fun w' hb => ?_, h.out⟩
      simp only [execOp, resolve, Sem.run_bind, Sem.run_pure, Result.andThen_ok, invoke, builtin]
      have := hu w' hb
      simp only at this
      rw [this]
      rfl
    · exact h.elim

/-! ### Operations that turn the world -/
def World.setBlk (w : World) (b : Nat) (o : Obj) : World := { w with heap := w.heap.setIfInBounds b o }
def New (cells : Array Value) (t : TypeId) (w : World) (k : Value → World → Prop) : Prop := k (.pointer (some ⟨w.heap.size, 0, none⟩)) (w.alloc (.cells cells t))
def NewS (cells : List Value) (n : Nat) (t : TypeId) (w : World) (k : Value → World → Prop) : Prop := k (.slice (some ⟨w.heap.size, 0, none⟩) n n) (w.alloc (.cells cells.toArray t))
def St (w : World) (a : Addr) (cs : List Value) (k : World → Prop) : Prop :=
  ∃ c el fz, w.heap[a.block]? = some (.cells c el fz) ∧ a.spot = none ∧ a.off + cs.length ≤ c.size ∧ (cs.all oneC) = true ∧ (fz.2 ≤ a.off ∨ a.off + cs.length ≤ fz.1) ∧
    k (World.setBlk w a.block (.cells (c.toList.take a.off ++ cs ++ c.toList.drop (a.off + cs.length)).toArray el fz))
def NewA (cells : Array Value) (t : TypeId) (w : World) (k : Addr → World → Prop) : Prop := k ⟨w.heap.size, 0, none⟩ (w.alloc (.cells cells t))
def NewSC (tot : Nat) (zero : List Value) (ps : List (Nat × Nat × Value)) (t : TypeId) (w : World) (k : Addr → World → Prop) : Prop :=
  partsOk tot ps ∧ k ⟨w.heap.size, 0, none⟩ (w.alloc (.cells (splice zero ps).toArray t))
def NewM (w : World) (k : Nat → World → Prop) : Prop := k w.heap.size (w.alloc (.map #[] 0))
def StV (sz : Nat) (w : World) (a : Addr) (v : Value) (k : World → Prop) : Prop := v.cells.size = sz ∧ St w a v.cells.toList k
def CallK (P : Program) (f : FuncId) (args : Array Value) (w : World) (kp : List PanicEntry → World → Prop) (k : Value → World → Prop) : Prop := Call P f args w k kp
def YieldK (P : Program) (s : Sem Next) (w : World) (kp : List PanicEntry → World → Prop) (k : Value → World → Prop) : Prop := Yield P s w k kp
def CallV (P : Program) (f : Value) (args : Array Value) (w : World) (kp : List PanicEntry → World → Prop) (k : Value → World → Prop) : Prop := Yield P (callSem f args) w k kp
def zeroRow (n : Nat) (z : Array Value) : List Value := ((Array.range n).map (fun i => z[i % z.size]!)).toList
def vEff (P : Program) (e : Env) (o : Oper) (w : World) (k : Value → World → Prop) (kp : List PanicEntry → World → Prop) : Prop :=
  match o.op with
  | .alloc t => (match zeroOf P t with | some z => New z.cells t w k | none => False)
  | .box t x => New (rho e x).cells t w k
  | .buildSlice t n parts =>
    (match P.underlying t with
     | some (.slice el) => (match P.info? el with
       | some i => (match zeroOf P el with
         | some z => (match places P t (parts.toList.map fun p => (p.1, rho e p.2)) with
           | some ps => (match Nat.ble (n * i.size) 16777216 with
             | true => partsOk (n * i.size) ps ∧ NewS (splice (match Nat.beq (n * i.size) 0 with | true => [] | false => zeroRow (n * i.size) z.cells) ps) n el w k
             | false => False)
           | none => False)
         | none => False)
       | none => False)
     | _ => False)
  | .store t x v =>
    (match rho e x with
     | .pointer (some a) => (match P.info? t with
       | some i => (rho e v).cells.size = i.size ∧ St w a (rho e v).cells.toList (fun w' => k undef w')
       | none => False)
     | _ => False)
  | .mapUpdate t m key v => RunU P (Instr.mapUpdate t (rho e m) (rho e key) (rho e v)) w fun w' => k undef w'
  | .insert t m key v => RunU P (Instr.mapUpdate t (rho e m) (rho e key) (rho e v)) w fun w' => k undef w'
  | .makeMap t r => (match r with | none => k (.map (some w.heap.size)) (w.alloc (.map #[] 0)) | some _ => RunW P (Instr.makeMap t (r.map (rho e))) w k)
  | .makeSlice t l c => RunW P (Instr.makeSlice t (rho e l) (rho e c)) w fun v w => As P o.type v fun v => k v w
  | .convert src dst x => RunW P (convert src dst (rho e x)) w fun v w => As P o.type v fun v => k v w
  | .range t x => RunW P (Instr.range t (rho e x)) w fun v w => AsP v fun a => k (.pointer a) w
  | .next x s => RunW P (Instr.next (rho e x) s o.type) w fun v w => (match s with | true => NxS v fun v => k v w | false => Nx v fun v => k v w)
  | .entry x => RunW P (Instr.entry (rho e x)) w fun v w => AsT2 v fun a b => k (.tuple #[a, b]) w
  | .call c =>
    (match c.callee with
     | .value (.func f) => (match callOk P f with | true => Call P f (c.args.map (rho e)) w (fun v w => As P o.type v fun v => k v w) kp | false => Yield P (genSem e o) w (fun v w => As P o.type v fun v => k v w) kp)
     | .builtin .append => RunW P (Builtin.append_ c.argTypes o.type (c.args.map (rho e))) w fun v w => As P o.type v fun v => k v w
     | .builtin .copy => RunW P (Builtin.copy_ c.argTypes o.type (c.args.map (rho e))) w fun v w => As P o.type v fun v => k v w
     | .builtin .delete => RunW P (Builtin.delete_ c.argTypes o.type (c.args.map (rho e))) w k
     | .builtin .clear => RunW P (Builtin.clear_ c.argTypes o.type (c.args.map (rho e))) w k
     | _ => Yield P (genSem e o) w (fun v w => As P o.type v fun v => k v w) kp)
  | _ => Yield P (genSem e o) w (fun v w => As P o.type v fun v => k v w) kp
theorem Yield.mono {P : Program} {s : Sem Next} {w : World} {k k' : Value → World → Prop} {kp kp' : List PanicEntry → World → Prop}
    (h : Yield P s w k kp) (hk : ∀ v w, k v w → k' v w) (hp : ∀ c w, kp c w → kp' c w) : Yield P s w k' kp' := by
  rw [Yield_iff] at *; unfold YieldR at *
  generalize s.run P w = r at *
  cases r with
  | ok n w' =>
    cases n <;> simp only at h ⊢ <;> first | exact hk _ _ h | exact h.elim | exact h.mono fun e w' he => (by cases e <;> first | exact hk _ _ he | exact hp _ _ he | exact he)
  | halt x w' => cases x <;> simp only at h ⊢ <;> first | exact hp _ _ h | exact h.elim
theorem run_storeCells {P : Program} {el : TypeId} {a : Addr} {fz : Nat × Nat} (hs : a.spot = none) : ∀ (cs : List Value) (i : Nat) (w : World) (c : Array Value), w.heap[a.block]? = some (.cells c el fz) →
    a.off + i + cs.length ≤ c.size → cs.all oneC = true → (fz.2 ≤ a.off + i ∨ a.off + i + cs.length ≤ fz.1) →
    (storeCells a cs i).run P w = .ok () (World.setBlk w a.block (.cells (c.toList.take (a.off + i) ++ cs ++ c.toList.drop (a.off + i + cs.length)).toArray el fz))
  | [], i, w, c, hb, _, _, _ => by
    simp only [storeCells, Sem.run_pure]
    congr 1
    unfold World.setBlk
    have : w.heap.setIfInBounds a.block (.cells (c.toList.take (a.off + i) ++ [] ++ c.toList.drop (a.off + i + ([] : List Value).length)).toArray el fz) = w.heap := by
      apply Array.ext_getElem?
      intro j
      by_cases hj : a.block = j
      · subst hj
        rw [Array.getElem?_setIfInBounds_self_of_lt (by
          rcases Nat.lt_or_ge a.block w.heap.size with h | h
          · exact h
          · rw [Array.getElem?_eq_none h] at hb; cases hb), hb]
        simp
      · rw [Array.getElem?_setIfInBounds_ne hj]
    rw [this]
  | v :: cs, i, w, c, hb, hle, hone, hz => by
    simp only [List.all_cons, Bool.and_eq_true] at hone
    simp only [List.length_cons] at hle hz
    have hadd : (a.add i).block = a.block ∧ (a.add i).off = a.off + i ∧ (a.add i).spot = none := by
      unfold Addr.add
      split
      · rename_i h0; subst h0; exact ⟨rfl, rfl, hs⟩
      · exact ⟨rfl, rfl, rfl⟩
    have hcell : ∃ u, w.cell? (a.add i) = some u := by
      unfold World.cell?
      rw [hadd.1, hb]
      simp only [hadd.2.2, Option.isSome_none, Bool.false_eq_true, if_false, hadd.2.1]
      exact ⟨c[a.off + i]'(by omega), Array.getElem?_eq_getElem (by omega)⟩
    obtain ⟨u, hu⟩ := hcell
    have hfr : w.frozen? (a.add i) = false := by
      unfold World.frozen?
      rw [hadd.1, hb]
      obtain ⟨lo, hi⟩ := fz
      dsimp only at hz ⊢
      rw [hadd.2.1]
      rcases hz with hz | hz
      · rw [decide_eq_false (show ¬ a.off + i < hi by omega), Bool.and_false]
      · rw [decide_eq_false (show ¬ lo ≤ a.off + i by omega), Bool.false_and]
    have hst : (store (a.add i) v).run P w = .ok () (w.setCell (a.add i) v) := by
      unfold store
      cases v <;> simp [oneC] at hone <;> simp [Sem.run, hu, hfr]
    have hset : w.setCell (a.add i) v = World.setBlk w a.block (.cells (c.setIfInBounds (a.off + i) v) el fz) := by
      unfold World.setCell World.setBlk
      congr 1
      apply Array.ext_getElem?
      intro j
      by_cases hj : a.block = j
      · subst hj
        have hlt : a.block < w.heap.size := by
          rcases Nat.lt_or_ge a.block w.heap.size with h | h
          · exact h
          · rw [Array.getElem?_eq_none h] at hb; cases hb
        rw [Array.getElem?_setIfInBounds_self_of_lt hlt, hadd.1, Array.getElem?_modify, if_pos rfl, hb]
        simp [hadd.2.1, hadd.2.2]
      · rw [Array.getElem?_setIfInBounds_ne hj, hadd.1, Array.getElem?_modify, if_neg hj]
    have hlt : a.block < w.heap.size := by
      rcases Nat.lt_or_ge a.block w.heap.size with h | h
      · exact h
      · rw [Array.getElem?_eq_none h] at hb; cases hb
    have hb' : (w.setCell (a.add i) v).heap[a.block]? = some (.cells (c.setIfInBounds (a.off + i) v) el fz) := by
      rw [hset]; unfold World.setBlk; simp [hlt]
    simp only [storeCells, Sem.run_bind, hst, Result.andThen_ok]
    rw [run_storeCells hs cs (i + 1) _ _ hb' (by simp; omega) hone.2 (by omega)]
    congr 1
    rw [hset]
    unfold World.setBlk
    simp only [Array.setIfInBounds_setIfInBounds]
    congr 3
    have h1 : (c.setIfInBounds (a.off + i) v).toList = c.toList.set (a.off + i) v := by simp
    rw [h1]
    apply congrArg List.toArray
    have hl : a.off + i < c.toList.length := by simp; omega
    rw [List.take_set, List.drop_set_of_lt (by omega)]
    rw [show a.off + (i + 1) = a.off + i + 1 by omega, List.take_succ_eq_append_getElem hl, List.set_append_right _ _ (by simp; omega)]
    simp only [List.length_take]
    rw [show a.off + i - min (a.off + i) c.toList.length = 0 by omega]
    simp only [List.set_cons_zero, List.append_assoc, List.cons_append, List.nil_append, List.length_cons]
    rw [show a.off + i + 1 + cs.length = a.off + i + (cs.length + 1) by omega]
theorem run_callFunc {P : Program} {f : FuncId} (h : callOk P f = true) (args : Array Value) (w : World) : (callFunc f args).run P w = .ok (.enter f args) w := by
  unfold callOk at h
  unfold callFunc
  split at h
  · rename_i fn hf
    split at h
    · rename_i c hc
      simp only [Sem.run_bind, run_program, Result.andThen_ok, hf]
      rw [if_neg (by simpa using h)]
      simp [hc]
    · cases h
  · cases h
theorem As.mono {P : Program} {t : TypeId} {v : Value} {k : Value → Prop} (h : As P t v k) : k v := h.out
theorem vEff_yield {P : Program} {e : Env} {o : Oper} {w : World} {k : Value → World → Prop} {kp : List PanicEntry → World → Prop} (h : vEff P e o w k kp) :
    Yield P (execOp (rho e) o) w k kp := by
  have gen : Yield P (genSem e o) w (fun v w => As P o.type v fun v => k v w) kp → Yield P (execOp (rho e) o) w k kp := fun h => by rw [← genSem_eq]; exact h.mono (fun v w hv => hv.out) (fun _ _ h => h)
  obtain ⟨dst, op, type, pos, after, guard⟩ := o
  unfold vEff at h
  simp only at h
  have runW : ∀ {s : Sem Value}, RunW P s w (fun v w => As P type v fun v => k v w) → (execOp (rho e) { dst, op, type, pos, after, guard } = do pure (.value (← s))) → Yield P (execOp (rho e) { dst, op, type, pos, after, guard }) w k kp := by
    intro s hs he
    obtain ⟨u, w', hr, hu⟩ := hs
    rw [he]
    rw [Yield_iff]; unfold YieldR
    simp only [Sem.run_bind, hr, Result.andThen_ok, Sem.run_pure]
    exact hu.out
  cases op <;> simp only at h
  case alloc t =>
    split at h
    · rename_i z hz
      rw [Yield_iff]; unfold YieldR
      simp [execOp, Instr.alloc, run_zero hz, newVar, newRow]
      exact h
    · exact h.elim
  case box t x =>
    rw [Yield_iff]; unfold YieldR
    simp [execOp, Instr.box, newVar, newRow]
    exact h
  case buildSlice t n parts =>
    split at h
    · rename_i el ht
      split at h
      · rename_i i hi
        split at h
        · rename_i z hz
          split at h
          · rename_i ps hps
            split at h
            · rename_i hle
              obtain ⟨hok, hk⟩ := h
              have hcells : P.cellsOf el = i.size := by simp [Program.cellsOf, hi]
              have hsz : ∀ w, (sizeOf el).run P w = .ok i.size w := fun w => by simp [sizeOf, typeInfo, hi]
              have hle' : ¬ (n * i.size > 2 ^ 24) := by
                have := Nat.le_of_ble_eq_true hle
                omega
              have hpl := places_slice ht _ _ hps
              rw [hcells] at hpl
              rw [Yield_iff]; unfold YieldR
              simp only [execOp, Instr.buildSlice, Sem.run_bind, run_underlying' ht, Result.andThen_ok, hsz]
              rw [if_neg hle']
              by_cases h0 : n * i.size = 0
              · have hb : Nat.beq (n * i.size) 0 = true := by rw [h0]; rfl
                rw [hb] at hk
                simp only at hk
                rw [if_pos h0]
                have hf := fill_splice _ _ _ (((Array.range (n * i.size)).map fun j => (#[] : Array Value)[j % (#[] : Array Value).size]!)) hpl (by simpa using hok)
                have hz0 : ((Array.range (n * i.size)).map fun j => (#[] : Array Value)[j % (#[] : Array Value).size]!).toList = [] := by rw [h0]; simp
                rw [hz0] at hf
                simp only [Sem.run_bind, Sem.run_pure, Result.andThen_ok]
                have e1 : (parts.map fun x => match x with | (i, x) => (i, rho e x)).toList = parts.toList.map fun p => (p.1, rho e p.2) := by simp
                rw [e1, hf]
                simp [newRow]
                exact hk
              · have hb : Nat.beq (n * i.size) 0 = false := by
                  cases hq : Nat.beq (n * i.size) 0 with
                  | false => rfl
                  | true => exact absurd (Nat.eq_of_beq_eq_true hq) h0
                rw [hb] at hk
                simp only at hk
                rw [if_neg h0]
                simp only [Sem.run_bind, run_zero hz, Sem.run_pure, Result.andThen_ok]
                have hf := fill_splice _ _ _ (((Array.range (n * i.size)).map fun j => z.cells[j % z.cells.size]!)) hpl (by simpa using hok)
                have e1 : (parts.map fun x => match x with | (i, x) => (i, rho e x)).toList = parts.toList.map fun p => (p.1, rho e p.2) := by simp
                rw [e1, hf]
                simp only [newRow, newObj, Sem.run_bind, Sem.run, Result.andThen_ok, Sem.run_pure]
                exact hk
            · exact h.elim
          · exact h.elim
        · exact h.elim
      · exact h.elim
    · exact h.elim
  case store t x v =>
    split at h
    · rename_i a hx
      split at h
      · rename_i i hi
        obtain ⟨hsz, c, el, fz, hb, hs, hle, hone, hz, hk⟩ := h
        have hr := run_storeCells (P := P) hs (rho e v).cells.toList 0 w c hb (by simpa using hle) hone (by simpa using hz)
        rw [Yield_iff]; unfold YieldR
        simp only [execOp, Instr.storeAt, hx, Instr.sureAddr, storeVar, sizeOf, typeInfo]
        simp only [Sem.run_bind, run_program, Result.andThen_ok, hi, Sem.run_pure, hsz]
        simp only [ne_eq, not_true_eq_false, if_false]
        simp only [hr, Result.andThen_ok]
        simpa using hk
      · exact h.elim
    · exact h.elim
  case mapUpdate t m key v =>
    obtain ⟨w', hr, hk⟩ := h
    rw [Yield_iff]; unfold YieldR
    simp only [execOp, Sem.run_bind, hr, Result.andThen_ok, Sem.run_pure]
    exact hk
  case insert t m key v =>
    obtain ⟨w', hr, hk⟩ := h
    rw [Yield_iff]; unfold YieldR
    simp only [execOp, Sem.run_bind, hr, Result.andThen_ok, Sem.run_pure]
    exact hk
  case makeMap t r =>
    split at h
    · rw [Yield_iff]; unfold YieldR
      simp [execOp, Instr.makeMap]
      exact h
    · obtain ⟨u, w', hr, hk⟩ := h
      rw [Yield_iff]; unfold YieldR
      simp only [execOp, Sem.run_bind, hr, Result.andThen_ok, Sem.run_pure]
      exact hk
  case makeSlice t l c => exact runW h rfl
  case convert src dst' x => exact runW h rfl
  case range t x =>
    obtain ⟨u, w', hr, a, rfl, hk⟩ := h
    rw [Yield_iff]; unfold YieldR
    simp only [execOp, Sem.run_bind, hr, Result.andThen_ok, Sem.run_pure]
    exact hk
  case next x s =>
    obtain ⟨u, w', hr, hk⟩ := h
    rw [Yield_iff]; unfold YieldR
    simp only [execOp, Sem.run_bind, hr, Result.andThen_ok, Sem.run_pure]
    cases s with
    | true => exact hk.out
    | false => exact hk.out
  case entry x =>
    obtain ⟨u, w', hr, a, b, rfl, hk⟩ := h
    rw [Yield_iff]; unfold YieldR
    simp only [execOp, Sem.run_bind, hr, Result.andThen_ok, Sem.run_pure]
    exact hk
  case call c =>
    obtain ⟨callee, args, argTypes⟩ := c
    split at h
    · rename_i f hc
      simp only at hc
      subst hc
      split at h
      · rename_i hok
        rw [Yield_iff]; unfold YieldR
        simp only [execOp, resolve, Deferred.ofValue, rho, ev, Option.getD_some, Sem.run_bind, Sem.run_pure, Result.andThen_ok, invoke]
        rw [run_callFunc hok]
        simp only [Array.empty_append, Array.append_empty]
        exact Calls.mono h fun e w' he => by cases e <;> first | exact he.out | exact he
      · exact gen h
    · rename_i hc
      simp only at hc; subst hc
      obtain ⟨u, w', hr, hu⟩ := h
      rw [Yield_iff]; unfold YieldR
      simp only [execOp, resolve, Sem.run_bind, Sem.run_pure, Result.andThen_ok, invoke, builtin]
      simp only at hr
      rw [hr]
      exact hu.out
    · rename_i hc
      simp only at hc; subst hc
      obtain ⟨u, w', hr, hu⟩ := h
      rw [Yield_iff]; unfold YieldR
      simp only [execOp, resolve, Sem.run_bind, Sem.run_pure, Result.andThen_ok, invoke, builtin]
      simp only at hr
      rw [hr]
      exact hu.out
    · rename_i hc
      simp only at hc; subst hc
      obtain ⟨u, w', hr, hu⟩ := h
      rw [Yield_iff]; unfold YieldR
      simp only [execOp, resolve, Sem.run_bind, Sem.run_pure, Result.andThen_ok, invoke, builtin]
      simp only at hr
      rw [hr]
      exact hu
    · rename_i hc
      simp only at hc; subst hc
      obtain ⟨u, w', hr, hu⟩ := h
      rw [Yield_iff]; unfold YieldR
      simp only [execOp, resolve, Sem.run_bind, Sem.run_pure, Result.andThen_ok, invoke, builtin]
      simp only at hr
      rw [hr]
      exact hu
    · exact gen h
  all_goals exact gen h
end Go.Vc
